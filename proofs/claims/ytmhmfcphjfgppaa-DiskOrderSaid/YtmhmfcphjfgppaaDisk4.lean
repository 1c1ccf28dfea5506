/- Sync. -/
import Derived.Test.YtmhmfcphjfgppaaDisk3
namespace Go.Proofs.Ytmhmfcphjfgppaa
open Go.RowKit

/-- What lies there behind writes, in order. -/
def syncSecs (secs : List (List UInt8)) (c : List (Nat × List UInt8)) : List (List UInt8) := c.foldl (fun l x => l.set x.1 x.2) secs
def Dk.sync (d : Dk) : Dk := { d.works with secs := syncSecs d.secs d.cache, cache := [] }
theorem syncSecs_length (c : List (Nat × List UInt8)) : ∀ secs, (syncSecs secs c).length = secs.length := by
  induction c with
  | nil => intro secs; rfl
  | cons x c ih => intro secs; simp only [syncSecs, List.foldl_cons] at ih ⊢; rw [ih]; simp
theorem syncSecs_whole (c : List (Nat × List UInt8)) : ∀ secs, (∀ x ∈ c, x.2.length = 128) → (∀ s ∈ secs, s.length = 128) → ∀ s ∈ syncSecs secs c, s.length = 128 := by
  induction c with
  | nil => intro secs _ h; exact h
  | cons x c ih =>
    intro secs hc h
    simp only [syncSecs, List.foldl_cons] at ih ⊢
    refine ih _ (fun y hy => hc y (by simp [hy])) ?_
    intro s hs
    rcases List.mem_or_eq_of_mem_set hs with hs | rfl
    · exact h s hs
    · exact hc x (by simp)
theorem syncSecs_snoc (secs : List (List UInt8)) (c : List (Nat × List UInt8)) (x : Nat × List UInt8) : syncSecs secs (c ++ [x]) = (syncSecs secs c).set x.1 x.2 := by simp [syncSecs]
theorem Dk.sync_ok {d : Dk} (h : d.Ok) : d.sync.Ok :=
  have hw := Dk.works_ok h
  ⟨by show (syncSecs d.secs d.cache).length ≤ 512; rw [syncSecs_length]; exact h.few, by show 1 ≤ (syncSecs d.secs d.cache).length; rw [syncSecs_length]; exact h.some_,
   syncSecs_whole _ _ (fun x hx => (h.at_ x hx).2) h.whole, by simp [sync], hw.left0, hw.left1, by simp [sync]⟩

section
variable {w : World} {b sb mb : Nat} {cv : Value} {d : Dk}

set_option maxHeartbeats 400000 in
theorem sync_nil (w : World) : Calls Try.prog 13 #[.pointer none] w fun e w' => e = .returned (.int .i64 1) ∧ w = w' := by
  go_enter Try.func13, Try.ntmps13
  go_wp2
  go_ret
  exact ⟨rfl, rfl⟩

def SyncPost (w : World) (b sb mb : Nat) (cv : Value) (d : Dk) (e : Ending) (w' : World) : Prop :=
  (brokeN d.left d.broken = true ∧ e = .returned (.int .i64 18) ∧ DkTo w w' b sb mb cv d.works) ∨
  (brokeN d.left d.broken = false ∧ e = .returned (.int .i64 0) ∧ DkTo w w' b sb mb cv d.sync)

theorem sizeSector : (Try.prog.info? tSector).map (·.size) = some 128 := by kernel_rfl
theorem writeCells_len (c : List (Nat × List UInt8)) (h : ∀ x ∈ c, x.2.length = 128) : ∀ x ∈ c, (writeCells x).length = 129 := fun x hx => writeCells_length x.1 x.2 (h x hx)
theorem wzero_splice3 (x : Nat × List UInt8) (h : x.2.length = 128) : splice (wzero 0) 0 (writeCells x) = writeCells x := by
  unfold splice
  have := writeCells_length x.1 x.2 h
  simp [wzero_length, this]

set_option maxHeartbeats 1000000 in
set_option maxRecDepth 100000 in
theorem sync_ok (h : IsDisk w b sb mb cv d) : Calls Try.prog 13 #[.pointer (some ⟨b, 0, none⟩)] w (SyncPost w b sb mb cv d) := by
  have hw := works_any w h.str h.ok.left0 h.ok.left1
  obtain ⟨A, c, rfl, hcap, hrow⟩ := own_slice h.cache
  have hsm := h.ok.small
  have HW := Lib.hid hw
  have H := Lib.hid h
  have HROW := Lib.hid hrow
  clear h hw hrow hcap
  go_enter Try.func13, Try.ntmps13
  go_wp2_with fail
  refine (HW.out).mono ?_
  rintro e w1 ⟨rfl, hb1, hf1⟩
  cases hbr : brokeN d.left d.broken with
  | true =>
    have Hbr := Lib.hid hbr
    clear hbr
    simp only [Bool.not_true]
    go_wp2
    go_ret
    exact .inl ⟨Hbr.out, rfl, DkTo.worked H.out hb1 hf1⟩
  | false =>
    simp only [Bool.not_false]
    have HBR := Lib.hid hbr
    clear hbr
    have hd1 := dCell1 hb1
    have HB1 := Lib.hid hb1
    have HF1 := Lib.hid hf1
    clear hb1 hf1
    go_wp2_with fail
    go_loopw [17] (fun i wr => ∃ k : Nat, k ≤ d.cache.length ∧ i = .int .i64 k ∧ Blk wr sb tSector (secCells (syncSecs d.secs (d.cache.take k))).toArray ∧ Frm (· = sb) w1 wr) (fun i _ => d.cache.length - (intOf i).toNat)
    case atStart => 
      exact ⟨0, Nat.zero_le _, rfl, by have := H.out.secs.frm HF1.out (Blk.ne H.out.secs H.out.str (by decide)); simpa [syncSecs] using this, Frm.refl _ _⟩
    case round =>
      obtain ⟨k, hk, rfl, hsb, hfr⟩ := hrel
      by_cases hlt : k < d.cache.length
      · obtain ⟨g, L, rfl, hg, hL, hLn⟩ := HROW.out (by omega)
        obtain ⟨hat, hlen⟩ := H.out.ok.at_ d.cache[k] (List.getElem_mem hlt)
        have hgr := (hg.frm HF1.out (Blk.ne hg H.out.str (by decide))).frm hfr (Blk.ne hg H.out.secs (by decide))
        have hbr := HB1.out.frm hfr (Blk.ne H.out.str H.out.secs (by decide))
        have hseg := flat_seg' writeCells 129 d.cache (writeCells_len _ fun x hx => (H.out.ok.at_ x hx).2) L hL k hlt
        have hfit : k * 129 + 129 ≤ L.length := by have := Nat.mul_le_mul_right 129 hlt; rw [Nat.succ_mul] at this; omega
        have HGR := Lib.hid hgr
        have HSEG := Lib.hid hseg
        have HFIT := Lib.hid hfit
        have HSB := Lib.hid hsb
        have HFR := Lib.hid hfr
        have HBR' := Lib.hid hbr
        have HLEN := Lib.hid hlen
        have HL := Lib.hid hL
        have HG := Lib.hid hg
        clear hgr hseg hfit hsb hfr hbr hlen hL hg hLn
        generalize hx : d.cache[k] = x at *
        have HX := Lib.hid hx
        clear hx
        have hat0 : (0 : Int) ≤ (x.1 : Int) := by omega
        have hat1 : (x.1 : Int) < (d.secs.length : Int) := by omega
        go_wp2_with (first
          | (refine L_load_as rfl tWrite (.tmp 19) rfl g (k * 129) 129 tWrite L (writeCells x) rfl HGR.out Try.underlying66 rfl sizeWrite HFIT.out HSEG.out ?_)
          | (refine L_alloc rfl tWrite rfl zeroWrite ?_)
          | (refine L_store rfl tWrite (.tmp 4) (.tmp 20) rfl wr.heap.size 0 tWrite (wzero 0) (writeCells x) rfl rfl (Blk.new _ _ _) (by rw [writeCells_length x.1 x.2 HLEN.out]; exact sizeWrite) (by rw [wzero_length, writeCells_length x.1 x.2 HLEN.out]; omega) (writeCells_one _) ?_; rw [setCells_alloc _ _ _ _ _ (by rw [wzero_length, writeCells_length x.1 x.2 HLEN.out]; omega), wzero_splice3 _ HLEN.out]))
        simp only [Act.put, List.setIfInBounds_toArray, List.set_cons_zero, List.set_cons_succ]
        have hu64 := Try.underlying64
        have hl128 : (byteCells x.2).length = 128 := by rw [byteCells_length]; exact HLEN.out
        have hi64 : (Try.prog.info? tSector).map (·.size) = some (byteCells x.2).length := by rw [hl128]; exact sizeSector
        have hone := byteCells_one x.2
        have hnew := Blk.new wr tWrite (writeCells x).toArray
        have s1 := (HBR'.out.alloc (.cells (writeCells x).toArray tWrite)).cell 0
        have s2 := hnew.cell 0
        have s3 : (wr.alloc (.cells (writeCells x).toArray tWrite)).rangeAt wr.heap.size 1 (byteCells x.2) := by
          have := hnew.range 1 128
          have e : ((writeCells x).drop 1).take 128 = byteCells x.2 := by simp only [writeCells, List.drop_succ_cons, List.drop_zero]; rw [← hl128, List.take_length]
          rwa [e] at this
        have s4 : (wr.alloc (.cells (writeCells x).toArray tWrite)).there sb (x.1 * 128) 128 := (HSB.out.alloc _).there (by rw [secCells_length _ (syncSecs_whole _ _ (fun y hy => (H.out.ok.at_ y (List.mem_of_mem_take hy)).2) H.out.ok.whole), syncSecs_length]; omega)
        change _ = some (Value.slice (some ⟨sb, 0, none⟩) d.secs.length d.secs.length) at s1
        change _ = some (Value.int .i64 x.1) at s2
        have HNEW := Lib.hid hnew
        have hneb : b ≠ sb := Blk.ne H.out.str H.out.secs (by decide)
        have hnen : wr.heap.size ≠ sb := by have := HSB.out.lt; omega
        clear hnew
        go_region_held3 (fun w' => w'.cell? ⟨b, 0, none⟩ = some (.slice (some ⟨sb, 0, none⟩) d.secs.length d.secs.length) ∧ w'.cell? ⟨wr.heap.size, 0, none⟩ = some (.int .i64 x.1) ∧ w'.rangeAt wr.heap.size 1 (byteCells x.2) ∧ w'.there sb (x.1 * 128) 128) (first | go_keep_ranges | exact ⟨(cell_setCells (p := ⟨b, 0, none⟩) hneb _ _).trans s1, (cell_setCells (p := ⟨wr.heap.size, 0, none⟩) hnen _ _).trans s2, range_setCells (by simpa using s3) hnen _ _, World.there_setCells (by simpa using s4) _ _ _⟩) (fail)
        have hsb' := Blk.setCells (byteCells x.2) (x.1 * 128) (wr.alloc (.cells (writeCells x).toArray tWrite)).drew _ (HSB.out.alloc (.cells (writeCells x).toArray tWrite)) (by
          rw [secCells_length _ (syncSecs_whole _ _ (fun y hy => (H.out.ok.at_ y (List.mem_of_mem_take hy)).2) H.out.ok.whole), syncSecs_length, hl128]; omega)
        have hfr' := Frm.setCells (S := (· = sb)) (g := sb) (.inl rfl) (byteCells x.2) (x.1 * 128) _ ((HFR.out.alloc (.cells (writeCells x).toArray tWrite)).drew)
        have hset : splice (secCells (syncSecs d.secs (d.cache.take k))) (x.1 * 128) (byteCells x.2) = secCells (syncSecs d.secs (d.cache.take (k + 1))) := by
          have e1 : d.cache.take (k + 1) = d.cache.take k ++ [x] := by rw [List.take_succ_eq_append_getElem hlt, HX.out]
          rw [e1, syncSecs_snoc]
          exact flat_set byteCells 128 _ (fun s hs => by rw [byteCells_length]; exact syncSecs_whole _ _ (fun y hy => (H.out.ok.at_ y (List.mem_of_mem_take hy)).2) H.out.ok.whole s hs) x.1 x.2 (by rw [syncSecs_length]; omega) hl128
        rw [hset] at hsb'
        have HSB' := Lib.hid hsb'
        have HFR' := Lib.hid hfr'
        clear hsb' hfr' hset s1 s2 s3 s4 hu64 hi64 hone
        go_wp2
        go_roundw
        case rel => exact ⟨k + 1, by omega, by go_num, HSB'.out, HFR'.out⟩
        case measure => simp [intOf]; omega
      · obtain rfl : k = d.cache.length := by omega
        rw [List.take_length] at hsb
        have hbr := HB1.out.frm hfr (Blk.ne H.out.str H.out.secs (by decide))
        have hmr := (H.out.dirty.frm HF1.out (H.out.dirty.ne_blk H.out.str)).frm hfr (H.out.dirty.ne_blk H.out.secs)
        have HSB := Lib.hid hsb
        have HFR := Lib.hid hfr
        have HBR' := Lib.hid hbr
        have HMR := Lib.hid hmr
        clear hsb hfr hbr hmr
        go_wp2_with (go_at_call 29; refine (empties_any _ HBR'.out HMR.out).mono ?_; rintro e w2 ⟨rfl, hb2, hm2, hf2⟩)
        go_ret
        refine .inr ⟨HBR.out, rfl, .slice none 0 0, ⟨Dk.sync_ok H.out.ok, ?_, ?_, World.ownsRow_nil _ _ _ _, ?_⟩, ?_, ?_⟩
        · have e : d.sync.secs.length = d.secs.length := syncSecs_length _ _
          rw [e]
          exact hb2
        · exact HSB.out.frm hf2 (fun h => by rcases h with h | h; exact (Blk.ne H.out.str H.out.secs (by decide)) h.symm; exact (H.out.dirty.ne_blk H.out.secs) h.symm)
        · show MapFn _ _ _ _ (dirtyFn [])
          rw [dirtyFn_nil]
          exact hm2
        · have f1 : Frm (dkOwn b sb mb (.slice A d.cache.length c)) w w1 := HF1.out.mono (fun _ _ hk => .inl hk)
          have f2 := f1.trans HFR.out (fun _ _ hk => .inr (.inl hk))
          exact f2.trans hf2 (fun _ _ hk => by rcases hk with hk | hk; exact .inl hk; exact .inr (.inr (.inl hk)))
        · intro g hg; cases hg
end
end Go.Proofs.Ytmhmfcphjfgppaa
