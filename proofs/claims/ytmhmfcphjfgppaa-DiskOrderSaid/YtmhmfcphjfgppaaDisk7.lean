/- Crash. -/
import Derived.Test.YtmhmfcphjfgppaaDiskLaw2
import Derived.WalkMore
namespace Go.Proofs.Ytmhmfcphjfgppaa
open Go.RowKit

theorem tmod_fix (n m : Int) (hm : 0 < m) : (n.tmod m + m) % m = n % m := by
  rw [Int.tmod_eq_emod, Int.add_emod_right]
  split
  · simp
  · rw [Int.sub_emod, Int.emod_emod]
    have : (m.natAbs : Int) = m := by omega
    rw [this, Int.emod_self, Int.sub_zero, Int.emod_emod]

set_option maxHeartbeats 400000 in
theorem rest_any (n : Int) (m : Int) (hm : 0 < m) (hm2 : m ≤ 1000) (w : World) :
    Calls Try.prog 36 #[.int .i64 n, .int .i64 m] w fun e w' => e = .returned (.int .i64 (n % m)) ∧ w = w' := by
  have h1 := Int.tmod_lt_of_pos n hm
  have h2 := Int.lt_tmod_of_pos n hm
  have hz : (m == 0) = false := by rw [beq_eq_false_iff_ne]; omega
  have hf := tmod_fix n m hm
  have HF := Lib.hid hf
  clear hf
  go_enter Try.func36, Try.ntmps36
  go_wp2
  go_ret
  exact ⟨ret_int HF.out, rfl⟩

/-- How many bytes of a write a crash leaves. -/
def keptN (f : Int × Int) : Nat := if f.1 % 3 = 1 then 128 else if f.1 % 3 = 2 then (f.2 % 129).toNat else 0
theorem keptN_le (f : Int × Int) : keptN f ≤ 128 := by
  unfold keptN
  have := Int.emod_lt_of_pos f.2 (show (0 : Int) < 129 by decide)
  split
  · omega
  · split <;> omega
def fateV (f : Int × Int) : Value := .agg #[.int .i64 f.1, .int .i64 f.2]

set_option maxHeartbeats 400000 in
theorem kept_any (f : Int × Int) (w : World) : Calls Try.prog 31 #[fateV f] w fun e w' => e = .returned (.int .i64 (keptN f)) ∧ Frm (fun _ => False) w w' := by
  obtain ⟨k, a⟩ := f
  unfold fateV
  have R3 := fun w => rest_any k 3 (by decide) (by decide) w
  have R129 := fun w => rest_any a 129 (by decide) (by decide) w
  have h30 := Int.emod_nonneg k (show (3 : Int) ≠ 0 by decide)
  have h31 := Int.emod_lt_of_pos k (show (0 : Int) < 3 by decide)
  go_enter Try.func31, Try.ntmps31
  go_wp2_with fail
  refine (R3 _).mono ?_
  rintro e w1 ⟨rfl, rfl⟩
  by_cases h1 : k % 3 = 1
  · have hk : keptN (k, a) = 128 := by simp [keptN, h1]
    have e1 : (k % 3 == 1) = true := by simp [h1]
    have HK := Lib.hid hk
    clear hk
    go_wp2
    go_ret
    exact ⟨by rw [HK.out]; rfl, (Frm.refl _ _).alloc _⟩
  · have e1 : (k % 3 == 1) = false := by simp [h1]
    by_cases h2 : k % 3 = 2
    · have e2 : (k % 3 == 2) = true := by simp [h2]
      have hk : (keptN (k, a) : Int) = a % 129 := by
        have e3 : keptN (k, a) = (a % 129).toNat := by simp [keptN, h2]
        have := Int.emod_nonneg a (show (129 : Int) ≠ 0 by decide)
        omega
      have HK := Lib.hid hk
      clear hk
      go_wp2_with fail
      refine (R129 _).mono ?_
      rintro e w1 ⟨rfl, rfl⟩
      go_wp2
      go_ret
      exact ⟨by rw [HK.out]; rfl, (Frm.refl _ _).alloc _⟩
    · have e2 : (k % 3 == 2) = false := by simp [h2]
      have hk : keptN (k, a) = 0 := by simp [keptN, h1, h2]
      have HK := Lib.hid hk
      clear hk
      go_wp2
      go_ret
      exact ⟨by rw [HK.out]; rfl, (Frm.refl _ _).alloc _⟩

/-- A slice of fates. -/
def FatesAt (w : World) (v : Value) (fs : List (Int × Int)) : Prop :=
  ∃ A c, v = .slice A fs.length c ∧ fs.length ≤ 9223372036854775807 ∧ (0 < fs.length → ∃ b off, A = some ⟨b, off, none⟩ ∧ b < w.heap.size ∧ ∀ i, i < fs.length → w.cell? ⟨b, off + i * 2, none⟩ = some (.int .i64 (fs.getD i (0, 0)).1) ∧ w.cell? ⟨b, off + i * 2 + 1, none⟩ = some (.int .i64 (fs.getD i (0, 0)).2))
theorem FatesAt.nil (w : World) : FatesAt w (.slice none 0 0) [] := ⟨none, 0, rfl, by simp, fun h => by simp at h⟩

/-- How many bytes of the k-th write stay. -/
def crashN (fs : List (Int × Int)) (k : Nat) : Nat := match fs[k]? with | some f => keptN f | none => 0
theorem crashN_le (fs : List (Int × Int)) (k : Nat) : crashN fs k ≤ 128 := by
  unfold crashN
  split
  · exact keptN_le _
  · omega
def tornSec (n : Nat) (new old : List UInt8) : List UInt8 := new.take n ++ old.drop n
/-- What lies there behind a crash, the first k writes done. -/
def crashSecs (secs : List (List UInt8)) (c : List (Nat × List UInt8)) (fs : List (Int × Int)) : Nat → List (List UInt8)
  | 0 => secs
  | k + 1 => match c[k]? with
    | some x => (crashSecs secs c fs k).set x.1 (tornSec (crashN fs k) x.2 ((crashSecs secs c fs k).getD x.1 []))
    | none => crashSecs secs c fs k
def crashLess (fs : List (Int × Int)) (k : Nat) : Bool := (List.range k).any fun i => crashN fs i != 128
def Dk.crash (d : Dk) (fs : List (Int × Int)) : Dk := { secs := crashSecs d.secs d.cache fs d.cache.length, cache := [], left := 0, broken := false }
theorem crashSecs_length (secs : List (List UInt8)) (c : List (Nat × List UInt8)) (fs : List (Int × Int)) : ∀ k, (crashSecs secs c fs k).length = secs.length
  | 0 => rfl
  | k + 1 => by
    unfold crashSecs
    split
    · rw [List.length_set, crashSecs_length secs c fs k]
    · exact crashSecs_length secs c fs k
theorem tornSec_length {n : Nat} {new old : List UInt8} (hn : n ≤ 128) (h1 : new.length = 128) (h2 : old.length = 128) : (tornSec n new old).length = 128 := by
  unfold tornSec; simp; omega
theorem crashSecs_whole {secs : List (List UInt8)} {c : List (Nat × List UInt8)} {fs : List (Int × Int)} (hc : ∀ x ∈ c, x.1 < secs.length ∧ x.2.length = 128) (hs : ∀ s ∈ secs, s.length = 128) : ∀ k, ∀ s ∈ crashSecs secs c fs k, s.length = 128
  | 0 => hs
  | k + 1 => by
    have ih := crashSecs_whole (fs := fs) hc hs k
    unfold crashSecs
    split
    · rename_i x hx
      intro s hm
      rcases List.mem_or_eq_of_mem_set hm with hm | rfl
      · exact ih s hm
      · have hx' := List.mem_of_getElem? hx
        refine tornSec_length (crashN_le fs k) (hc x hx').2 ?_
        have hlt : x.1 < (crashSecs secs c fs k).length := by rw [crashSecs_length]; exact (hc x hx').1
        rw [List.getD_eq_getElem?_getD, List.getElem?_eq_getElem hlt]
        exact ih _ (List.getElem_mem hlt)
    · exact ih
theorem Dk.crash_ok {d : Dk} (h : d.Ok) (fs : List (Int × Int)) : (d.crash fs).Ok :=
  ⟨by show (crashSecs ..).length ≤ _; rw [crashSecs_length]; exact h.few, by show _ ≤ (crashSecs ..).length; rw [crashSecs_length]; exact h.some_, crashSecs_whole h.at_ h.whole _, by simp [crash], by simp [crash], by simp [crash], by simp [crash]⟩

section
variable {w : World} {b sb mb : Nat} {cv : Value} {d : Dk} {fv : Value} {fs : List (Int × Int)}

theorem secCells_i64 {l : List (List UInt8)} {z : Int} {o : Nat} {t : TypeId} (h : Blk w sb t (secCells l).toArray) (hc : w.cell? ⟨sb, o, none⟩ = some (.int .i64 z)) : False := by
  rw [h.cell] at hc
  have := List.mem_of_getElem? (by simpa using hc : (secCells l)[o]? = _)
  simp [secCells, byteCells] at this
theorem crashLess_succ (fs : List (Int × Int)) (k : Nat) : crashLess fs (k + 1) = (crashLess fs k || crashN fs k != 128) := by
  simp [crashLess, List.range_succ]
theorem splice_torn (L : List Value) (o n : Nat) (new old : List UInt8) (hL : (L.drop o).take 128 = byteCells old) (h1 : new.length = 128) (h2 : old.length = 128) (hn : n ≤ 128) :
    splice L o ((byteCells new).take n) = splice L o (byteCells (tornSec n new old)) := by
  have e1 : byteCells (tornSec n new old) = (byteCells new).take n ++ (byteCells old).drop n := by simp [tornSec, byteCells]
  have e2 : L.drop (o + n) = (byteCells old).drop n ++ L.drop (o + 128) := by
    rw [← hL, ← List.drop_drop, ← List.drop_drop, List.drop_take, show 128 - n = 128 - n from rfl]
    conv => lhs; rw [← List.take_append_drop (128 - n) ((L.drop o).drop n)]
    congr 1
    rw [List.drop_drop, List.drop_drop, List.drop_drop]
    congr 1
    omega
  unfold splice
  rw [e1]
  have l1 : ((byteCells new).take n).length = n := by rw [List.length_take, byteCells_length, h1]; omega
  have l2 : ((byteCells new).take n ++ (byteCells old).drop n).length = 128 := by rw [List.length_append, l1, List.length_drop, byteCells_length, h2]; omega
  rw [l1, l2, e2]
  simp
theorem splice_crash {secs : List (List UInt8)} {c : List (Nat × List UInt8)} {fs : List (Int × Int)} (hc : ∀ x ∈ c, x.1 < secs.length ∧ x.2.length = 128) (hs : ∀ s ∈ secs, s.length = 128) (k : Nat) (x : Nat × List UInt8) (hx : c[k]? = some x) :
    splice (secCells (crashSecs secs c fs k)) (x.1 * 128) ((byteCells x.2).take (crashN fs k)) = secCells (crashSecs secs c fs (k + 1)) := by
  have hw := crashSecs_whole (fs := fs) hc hs k
  have hx' := hc x (List.mem_of_getElem? hx)
  have hlt : x.1 < (crashSecs secs c fs k).length := by rw [crashSecs_length]; exact hx'.1
  have hold : ((crashSecs secs c fs k)[x.1]).length = 128 := hw _ (List.getElem_mem hlt)
  have hseg := flat_seg byteCells 128 (crashSecs secs c fs k) (fun s hs => by rw [byteCells_length]; exact hw s hs) x.1 hlt
  unfold secCells
  rw [splice_torn _ _ _ x.2 _ hseg hx'.2 hold (crashN_le fs k)]
  have := flat_set byteCells 128 (crashSecs secs c fs k) (fun s hs => by rw [byteCells_length]; exact hw s hs) x.1 (tornSec (crashN fs k) x.2 (crashSecs secs c fs k)[x.1]) hlt (by rw [byteCells_length]; exact tornSec_length (crashN_le fs k) hx'.2 hold)
  rw [this]
  simp only [crashSecs, hx]
  rw [List.getD_eq_getElem?_getD, List.getElem?_eq_getElem hlt]
  rfl
theorem slice_sector (g o n : Nat) (hn : n ≤ 128) (w : World) : (Instr.sliceAt 64 (.pointer (some ⟨g, o, none⟩)) none (some (.int .i64 (n : Nat))) none).run Try.prog w = .ok (.slice (some ⟨g, o, none⟩) n 128) w := by
  have h : ((n : Nat) : Int) ≤ 128 := by omega
  go_simp
set_option maxHeartbeats 400000 in
set_option maxRecDepth 100000 in
theorem crash_nil (w : World) (fv : Value) : Calls Try.prog 17 #[.pointer none, fv] w fun e w' => e = .returned (.bool false) ∧ w = w' := by
  go_enter Try.func17, Try.ntmps17
  go_wp2
  go_step3
  go_wp2
  try rw [Exit.noGoto_ret]
  go_ret
  exact ⟨rfl, rfl⟩

set_option maxHeartbeats 1000000 in
set_option maxRecDepth 100000 in
theorem crash_ok (h : IsDisk w b sb mb cv d) (hf : FatesAt w fv fs) : Calls Try.prog 17 #[.pointer (some ⟨b, 0, none⟩), fv] w
    fun e w' => e = .returned (.bool (crashLess fs d.cache.length)) ∧ DkTo w w' b sb mb cv (d.crash fs) := by
  obtain ⟨A, c, rfl, hcap, hrow⟩ := own_slice h.cache
  obtain ⟨B, fc, rfl, hfl, hfc⟩ := hf
  have hsm := h.ok.small
  have hd1 := dCell1 h.str
  have H := Lib.hid h
  have HROW := Lib.hid hrow
  have HFC := Lib.hid hfc
  clear h hrow hcap hfc
  go_enter Try.func17, Try.ntmps17
  go_wp2_with fail
  go_step3
  go_wp2_with fail
  go_step3
  go_wp2_with fail
  go_loopw [16, 5] (fun i l wr => ∃ k : Nat, k ≤ d.cache.length ∧ i = .int .i64 k ∧ l = .bool (crashLess fs k) ∧ Blk wr sb tSector (secCells (crashSecs d.secs d.cache fs k)).toArray ∧ Frm (· = sb) w wr) (fun i _ _ => d.cache.length - (intOf i).toNat)
  case atStart => exact ⟨0, Nat.zero_le _, rfl, rfl, H.out.secs, Frm.refl _ _⟩
  case round =>
    obtain ⟨k, hk, rfl, rfl, hsb, hfr⟩ := hrel
    by_cases hlt : k < d.cache.length
    · obtain ⟨g, L, rfl, hg, hL, hLn⟩ := HROW.out (by omega)
      obtain ⟨hat, hlen⟩ := H.out.ok.at_ d.cache[k] (List.getElem_mem hlt)
      have hgr := hg.frm hfr (Blk.ne hg H.out.secs (by decide))
      have hbr := H.out.str.frm hfr (Blk.ne H.out.str H.out.secs (by decide))
      have hseg := flat_seg' writeCells 129 d.cache (writeCells_len _ fun x hx => (H.out.ok.at_ x hx).2) L hL k hlt
      have hfit : k * 129 + 129 ≤ L.length := by have := Nat.mul_le_mul_right 129 hlt; rw [Nat.succ_mul] at this; omega
      have HGR := Lib.hid hgr
      have HSEG := Lib.hid hseg
      have HFIT := Lib.hid hfit
      have HSB := Lib.hid hsb
      have HFR := Lib.hid hfr
      have HBR' := Lib.hid hbr
      have HLEN := Lib.hid hlen
      have HL := Lib.hid hL
      have HG := Lib.hid hg
      clear hgr hseg hfit hsb hfr hbr hlen hL hg hLn
      have hxk : d.cache[k]? = some d.cache[k] := List.getElem?_eq_getElem hlt
      have HXK := Lib.hid hxk
      clear hxk
      generalize hx : d.cache[k] = x at *
      have HX := Lib.hid hx
      clear hx
      have hat0 : (0 : Int) ≤ (x.1 : Int) := by omega
      have hat1 : (x.1 : Int) < (d.secs.length : Int) := by omega
      have hwb := ((H.out.ok.at_ x (List.mem_of_getElem? HXK.out)).1)
      rcases Nat.lt_or_ge k fs.length with hkf | hkf
      focus
        obtain ⟨fb, fo, rfl, hfb, hcell⟩ := HFC.out (by omega)
        have hc1 := (hcell k hkf).1
        have hc2 := (hcell k hkf).2
        have hne : fb ≠ sb := by rintro rfl; exact secCells_i64 H.out.secs hc1
        have hc3 : (wr.alloc (.cells (writeCells x).toArray tWrite)).cell? ⟨fb, fo + k * 2, none⟩ = some (.int .i64 (fs.getD k (0, 0)).1) := (((HFR.out).alloc _).cell (p := ⟨fb, fo + k * 2, none⟩) hfb hne).trans hc1
        have hc4 : (wr.alloc (.cells (writeCells x).toArray tWrite)).cell? ⟨fb, fo + k * 2 + 1, none⟩ = some (.int .i64 (fs.getD k (0, 0)).2) := (((HFR.out).alloc _).cell (p := ⟨fb, fo + k * 2 + 1, none⟩) hfb hne).trans hc2
        have hN : crashN fs k = keptN (fs.getD k (0, 0)) := by simp [crashN, List.getD, hkf]
        have HN := Lib.hid hN
        clear hc1 hc2 hcell hN
        generalize fs.getD k (0, 0) = f at *
        have hdk : decide ((k : Int) < (fs.length : Int)) = true := by simp; omega
        have hi0 : (0 : Int) ≤ (k : Int) := by omega
        have hi1 : (k : Int) < (fs.length : Int) := by omega
        go_wp2_with (first
            | (go_at_call 31; refine (kept_any f _).mono ?_; rintro e w1 ⟨rfl, hf1⟩; rw [← HN.out])
            | (refine L_load_as rfl tWrite (.tmp 19) rfl g (k * 129) 129 tWrite L (writeCells x) rfl HGR.out Try.underlying66 rfl sizeWrite HFIT.out HSEG.out ?_)
            | (refine L_alloc rfl tWrite rfl zeroWrite ?_)
            | (refine L_store rfl tWrite (.tmp 7) (.tmp 20) rfl wr.heap.size 0 tWrite (wzero 0) (writeCells x) rfl rfl (Blk.new _ _ _) (by rw [writeCells_length x.1 x.2 HLEN.out]; exact sizeWrite) (by rw [wzero_length, writeCells_length x.1 x.2 HLEN.out]; omega) (writeCells_one _) ?_; rw [setCells_alloc _ _ _ _ _ (by rw [wzero_length, writeCells_length x.1 x.2 HLEN.out]; omega), wzero_splice3 _ HLEN.out]))

      rotate_left
      focus
        have hdk : decide ((k : Int) < (fs.length : Int)) = false := by simp; omega
        have hN : crashN fs k = 0 := by simp [crashN, hkf]
        have HN := Lib.hid hN
        clear hN
        go_wp2_with (first
            | (refine L_load_as rfl tWrite (.tmp 19) rfl g (k * 129) 129 tWrite L (writeCells x) rfl HGR.out Try.underlying66 rfl sizeWrite HFIT.out HSEG.out ?_)
            | (refine L_alloc rfl tWrite rfl zeroWrite ?_)
            | (refine L_store rfl tWrite (.tmp 7) (.tmp 20) rfl wr.heap.size 0 tWrite (wzero 0) (writeCells x) rfl rfl (Blk.new _ _ _) (by rw [writeCells_length x.1 x.2 HLEN.out]; exact sizeWrite) (by rw [wzero_length, writeCells_length x.1 x.2 HLEN.out]; omega) (writeCells_one _) ?_; rw [setCells_alloc _ _ _ _ _ (by rw [wzero_length, writeCells_length x.1 x.2 HLEN.out]; omega), wzero_splice3 _ HLEN.out]))

        obtain ⟨w1, hw1, hf1⟩ : ∃ w1, w1 = wr.alloc (.cells (writeCells x).toArray tWrite) ∧ Frm (fun _ => False) (wr.alloc (.cells (writeCells x).toArray tWrite)) w1 := ⟨_, rfl, Frm.refl _ _⟩
        rw [← hw1, show (Value.int IntKind.i64 0) = .int .i64 ((crashN fs k : Nat) : Int) by rw [HN.out]; rfl]
        clear hw1
      all_goals
      have hn128 := crashN_le fs k
      have hfew := H.out.ok.few
      have hnew := (Blk.new wr tWrite (writeCells x).toArray).frm hf1 (fun h => h)
      have hsb1 := (HSB.out.alloc (.cells (writeCells x).toArray tWrite)).frm hf1 (fun h => h)
      have hb1 := ((HBR'.out.alloc (.cells (writeCells x).toArray tWrite)).frm hf1 (fun h => h))
      have HB1 := Lib.hid hb1
      have s1 : w1.cell? ⟨b, 0, none⟩ = some (.slice (some ⟨sb, 0, none⟩) d.secs.length d.secs.length) := hb1.cell 0
      clear hb1
      have s2 : w1.cell? ⟨wr.heap.size, 0, none⟩ = some (.int .i64 x.1) := hnew.cell 0
      have HNEW := Lib.hid hnew
      have HSB1 := Lib.hid hsb1
      have HF1 := Lib.hid hf1
      have hneb : b ≠ sb := Blk.ne H.out.str H.out.secs (by decide)
      have hnen : wr.heap.size ≠ sb := by have := HSB.out.lt; omega
      clear hnew hsb1 hf1
      have hS0 : w1.drew.cell? ⟨b, 0, none⟩ = some (.slice (some ⟨sb, 0, none⟩) d.secs.length d.secs.length) ∧ w1.drew.cell? ⟨wr.heap.size, 0, none⟩ = some (.int .i64 x.1) := ⟨s1, s2⟩
      refine wp_region_ord [(0, false, true), (1, false, true), (2, false, true), (3, false, true), (4, false, true), (5, false, true), (6, false, true), (7, false, true), (8, false, true), (9, false, true), (10, false, true), (11, false, true), (12, true, true)]
        (fun w' => w'.cell? ⟨b, 0, none⟩ = some (.slice (some ⟨sb, 0, none⟩) d.secs.length d.secs.length) ∧ w'.cell? ⟨wr.heap.size, 0, none⟩ = some (.int .i64 x.1)) (by kernel_rfl) (by kernel_rfl) (by decide) (by kernel_rfl) ?_
      refine O_val (.move (.tmp 0)) (some 30) (.pointer (some ⟨b, 0, none⟩)) rfl (fun _ _ _ h => h) (hS0) (fun w o hS ho => x_move ho) ?_
      simp only [Act.put, List.setIfInBounds_toArray, List.set_cons_zero, List.set_cons_succ]
      refine O_val (.nilCheck (.tmp 30)) (some 31) (.pointer (some ⟨b, 0, none⟩)) rfl (fun _ _ _ h => h) (hS0) (fun w o hS ho => x_nilCheck ho rfl) ?_
      simp only [Act.put, List.setIfInBounds_toArray, List.set_cons_zero, List.set_cons_succ]
      refine O_val (.fieldAddr tDisk (.tmp 31) 0) (some 32) (.pointer (some ⟨b, 0, none⟩)) rfl (fun _ _ _ h => h) (hS0) (fun w o hS ho => x_fieldAddr ho rfl (by go_simp)) ?_
      simp only [Act.put, List.setIfInBounds_toArray, List.set_cons_zero, List.set_cons_succ]
      refine O_val (.load 58 (.tmp 32)) (some 33) (.slice (some ⟨sb, 0, none⟩) d.secs.length d.secs.length) rfl (fun _ _ _ h => h) (hS0) (fun w o hS ho => x_load1 ho rfl hS.1 Try.underlying58 rfl) ?_
      simp only [Act.put, List.setIfInBounds_toArray, List.set_cons_zero, List.set_cons_succ]
      refine O_val (.fieldAddr tWrite (.tmp 7) 0) (some 34) (.pointer (some ⟨wr.heap.size, 0, none⟩)) rfl (fun _ _ _ h => h) (hS0) (fun w o hS ho => x_fieldAddr ho rfl (by go_simp)) ?_
      simp only [Act.put, List.setIfInBounds_toArray, List.set_cons_zero, List.set_cons_succ]
      refine O_val (.load 3 (.tmp 34)) (some 35) (.int .i64 x.1) rfl (fun _ _ _ h => h) (hS0) (fun w o hS ho => x_load1 ho rfl hS.2 Try.underlying3 rfl) ?_
      simp only [Act.put, List.setIfInBounds_toArray, List.set_cons_zero, List.set_cons_succ]
      refine O_val (.indexAddr 58 (.tmp 33) (.tmp 35)) (some 36) (.pointer (some ⟨sb, x.1 * 128, none⟩)) rfl (fun _ _ _ h => h) (hS0) (fun w o hS ho => x_indexAddr ho rfl rfl (index_sector x.1 hwb hfew w)) ?_
      simp only [Act.put, List.setIfInBounds_toArray, List.set_cons_zero, List.set_cons_succ]
      refine O_val (.move (.tmp 8)) (some 37) (.int .i64 (crashN fs k : Nat)) rfl (fun _ _ _ h => h) (hS0) (fun w o hS ho => x_move ho) ?_
      simp only [Act.put, List.setIfInBounds_toArray, List.set_cons_zero, List.set_cons_succ]
      refine O_val (.slice 64 (.tmp 36) none (some (.tmp 37)) none) (some 38) (.slice (some ⟨sb, x.1 * 128, none⟩) (crashN fs k) 128) rfl (fun _ _ _ h => h) (hS0) (fun w o hS ho => x_sliceAt ho rfl rfl (slice_sector _ _ _ hn128 w)) ?_
      simp only [Act.put, List.setIfInBounds_toArray, List.set_cons_zero, List.set_cons_succ]
      refine O_val (.fieldAddr tWrite (.tmp 7) 1) (some 39) (.pointer (some ⟨wr.heap.size, 1, none⟩)) rfl (fun _ _ _ h => h) (hS0) (fun w o hS ho => x_fieldAddr ho rfl (by go_simp)) ?_
      simp only [Act.put, List.setIfInBounds_toArray, List.set_cons_zero, List.set_cons_succ]
      refine O_val (.move (.tmp 8)) (some 40) (.int .i64 (crashN fs k : Nat)) rfl (fun _ _ _ h => h) (hS0) (fun w o hS ho => x_move ho) ?_
      simp only [Act.put, List.setIfInBounds_toArray, List.set_cons_zero, List.set_cons_succ]
      refine O_val (.slice 64 (.tmp 39) none (some (.tmp 40)) none) (some 41) (.slice (some ⟨wr.heap.size, 1, none⟩) (crashN fs k) 128) rfl (fun _ _ _ h => h) (hS0) (fun w o hS ho => x_sliceAt ho rfl rfl (slice_sector _ _ _ hn128 w)) ?_
      simp only [Act.put, List.setIfInBounds_toArray, List.set_cons_zero, List.set_cons_succ]
      have hL128 : (secCells (crashSecs d.secs d.cache fs k)).length = d.secs.length * 128 := by rw [secCells_length _ (crashSecs_whole H.out.ok.at_ H.out.ok.whole k), crashSecs_length]
      have hfitd : x.1 * 128 + crashN fs k ≤ (secCells (crashSecs d.secs d.cache fs k)).length := by rw [hL128]; omega
      have hcl : ((byteCells x.2).take (crashN fs k)).length = crashN fs k := by rw [List.length_take, byteCells_length, HLEN.out]; omega
      have hrg : w1.drew.rangeAt wr.heap.size 1 ((byteCells x.2).take (crashN fs k)) := by
        have := HNEW.out.range 1 (crashN fs k)
        exact this
      have hsb2 := HSB1.out.drew.setRow (cs' := (secCells (crashSecs d.secs d.cache fs (k + 1))).toArray)
      have hfr2 := ((((HFR.out.alloc (.cells (writeCells x).toArray tWrite)).trans' (HF1.out.mono (fun _ _ h => h.elim))).drew).setRow (g := sb) (.inl rfl) (secCells (crashSecs d.secs d.cache fs (k + 1))).toArray)
      have HSB2 := Lib.hid hsb2
      have HFR2 := Lib.hid hfr2
      have HFITD := Lib.hid hfitd
      have HRG := Lib.hid hrg
      have HCL := Lib.hid hcl
      clear hsb2 hfr2 hfitd hrg hcl hL128
      refine O_loud (.call { callee := .builtin .copy, args := #[.tmp 38, .tmp 41], argTypes := #[67, 67] }) (some 42) rfl (fun K hK o ho hd => ?_)
      refine wp_val (x_copy_seg ho Try.underlying67 rfl (g := sb) (off := x.1 * 128) (g2 := wr.heap.size) (off2 := 1) (m := crashN fs k) rfl rfl HSB1.out.drew HRG.out HCL.out HFITD.out (fun v hv => byteCells_one x.2 v (List.mem_of_mem_take hv))) ?_
      rw [hd, splice_crash H.out.ok.at_ H.out.ok.whole k x HXK.out]
      refine hK _ _ ⟨(HB1.out.drew.setRow_far hneb).cell 0, (HNEW.out.drew.setRow_far hnen).cell 0⟩ ?_
      clear hK K hd ho o
      simp only [Act.put, List.setIfInBounds_toArray, List.set_cons_zero, List.set_cons_succ]
      refine O_nil ?_
      have hl1 := crashLess_succ fs k
      by_cases h128 : crashN fs k = 128
      · have e1 : ((crashN fs k : Int) == 128) = true := by simp; omega
        have HL1 := Lib.hid (hl1.trans (by rw [h128]; simp : (crashLess fs k || crashN fs k != 128) = crashLess fs k))
        clear hl1
        go_wp2
        exact ⟨⟨k + 1, by omega, by go_num, by rw [HL1.out], HSB2.out, HFR2.out⟩, by simp [intOf]; omega⟩
      · have e1 : ((crashN fs k : Int) == 128) = false := by simp; omega
        have HL1 := Lib.hid (hl1.trans (by simp [h128] : (crashLess fs k || crashN fs k != 128) = true))
        clear hl1
        go_wp2
        exact ⟨⟨k + 1, by omega, by go_num, by rw [HL1.out], HSB2.out, HFR2.out⟩, by simp [intOf]; omega⟩
    · obtain rfl : k = d.cache.length := by omega
      have hbr := H.out.str.frm hfr (Blk.ne H.out.str H.out.secs (by decide))
      have hmr := H.out.dirty.frm hfr (H.out.dirty.ne_blk H.out.secs)
      have HSB := Lib.hid hsb
      have HFR := Lib.hid hfr
      have HBR' := Lib.hid hbr
      have HMR := Lib.hid hmr
      clear hsb hfr hbr hmr
      go_wp2_with (go_at_call 29; refine (empties_any _ HBR'.out HMR.out).mono ?_; rintro e w2 ⟨rfl, hb2, hm2, hf2⟩; have c3 := dCell3 hb2; have c4 := dCell4 hb2; have z3 := hb2.frozen 3; have z4 := hb2.frozen 4)
      try rw [Exit.noGoto_ret]
      go_ret
      refine ⟨rfl, .slice none 0 0, ⟨Dk.crash_ok H.out.ok fs, ?_, ?_, World.ownsRow_nil _ _ _ _, ?_⟩, ?_, ?_⟩
      · have e : (d.crash fs).secs.length = d.secs.length := crashSecs_length _ _ _ _
        rw [e]
        exact (hb2.set 3 _).set 4 _
      · exact (HSB.out.frm hf2 (fun h => by rcases h with h | h; exact (Blk.ne H.out.str H.out.secs (by decide)) h.symm; exact (H.out.dirty.ne_blk H.out.secs) h.symm))|> fun h => ((h : Blk w2 sb _ _).far (p := ⟨b, 3, none⟩) (Blk.ne H.out.secs H.out.str (by decide)) _).far (p := ⟨b, 4, none⟩) (Blk.ne H.out.secs H.out.str (by decide)) _
      · show MapFn _ _ _ _ (dirtyFn [])
        rw [dirtyFn_nil]
        exact MapFn.setCell (MapFn.setCell hm2 ⟨b, 3, none⟩ _) ⟨b, 4, none⟩ _
      · have f2 : Frm (dkOwn b sb mb (.slice A d.cache.length c)) w w2 := (HFR.out.mono (fun _ _ hk => .inr (.inl hk))).trans hf2 (fun _ _ hk => by rcases hk with hk | hk; exact .inl hk; exact .inr (.inr (.inl hk)))
        exact (f2.setCell (p := ⟨b, 3, none⟩) (.inl (.inl rfl)) _).setCell (p := ⟨b, 4, none⟩) (.inl (.inl rfl)) _
      · intro g hg; cases hg

end
end Go.Proofs.Ytmhmfcphjfgppaa
