/- slices.Backward over a disk's cache; Read. -/
import Derived.Test.YtmhmfcphjfgppaaDisk4
import Derived.Test.YtmhmfcphjfgppaaGat
namespace Go.Proofs.Ytmhmfcphjfgppaa
open Go.RowKit Go.Shelf
attribute [local go_sem] Oper.semAt_some

abbrev fBack : Nat := 30
abbrev fBack1 : Nat := 35

/-- What has come when k rounds are over. -/
def upto {α : Type} (f : Nat → α) (k : Nat) : List α := (List.range k).map f
theorem zsec_length : zsec.length = 128 := by simp [zsec]
theorem upto_succ {α : Type} (f : Nat → α) (k : Nat) : upto f (k + 1) = upto f k ++ [f k] := by simp [upto, List.range_succ]
theorem upto_length {α : Type} (f : Nat → α) (k : Nat) : (upto f k).length = k := by simp [upto]

abbrev Wr := Nat × List UInt8
abbrev Ws := { x : Wr // x.2.length = 128 }
def ws0 : Ws := ⟨(0, zsec), zsec_length⟩
def cOf (cs : List Ws) : List Wr := cs.map Subtype.val
theorem cOf_length (cs : List Ws) : (cOf cs).length = cs.length := by simp [cOf]
theorem cOf_whole (cs : List Ws) : ∀ x ∈ cOf cs, x.2.length = 128 := by
  intro x hx
  obtain ⟨y, _, rfl⟩ := List.mem_map.1 hx
  exact y.2
theorem cOf_get (cs : List Ws) (m : Nat) (h : m < cs.length) : (cOf cs)[m]'(by rw [cOf_length]; exact h) = (cs[m]).1 := by simp [cOf]
theorem exists_cOf : ∀ (c : List Wr), (∀ x ∈ c, x.2.length = 128) → ∃ cs, cOf cs = c
  | [], _ => ⟨[], rfl⟩
  | x :: c, h => by
    obtain ⟨cs, e⟩ := exists_cOf c (fun y hy => h y (by simp [hy]))
    exact ⟨⟨x, h x (by simp)⟩ :: cs, congrArg (x :: ·) e⟩
/-- The j-th from behind, with its place. -/
def backAt (cs : List Ws) (j : Nat) : Nat × Ws := (cs.length - 1 - j, cs.getD (cs.length - 1 - j) ws0)
def wEncs (x : Nat × Ws) : Array Value := #[.int .i64 (x.1 : Int), .agg (writeCells x.2.1).toArray]

/-- The last write of a cache to a sector. -/
def lastOf (c : List Wr) (at' : Nat) : Option (List UInt8) := (c.reverse.find? (fun x => x.1 == at')).map (·.2)
theorem back_rev (cs : List Ws) : (upto (backAt cs) cs.length).map (fun y => y.2.1) = (cOf cs).reverse := by
  apply List.ext_getElem
  · simp [upto, cOf]
  · intro i h1 h2
    have hi : i < cs.length := by simpa [upto] using h1
    have h3 : cs.length - 1 - i < cs.length := by omega
    simp only [upto, List.map_map, List.getElem_map, List.getElem_range, Function.comp, backAt, List.getElem_reverse, cOf, List.length_map]
    simp [List.getD, List.getElem?_eq_getElem h3]
theorem upto_prefix {α : Type} (f : Nat → α) {k n : Nat} (h : k ≤ n) : ∃ r, upto f n = upto f k ++ r := by
  obtain ⟨m, rfl⟩ := Nat.exists_eq_add_of_le h
  exact ⟨(List.range m).map (fun j => f (k + j)), by simp [upto, List.range_add, Function.comp_def]⟩
theorem last_hit {cs : List Ws} {k at' : Nat} {q : List (Nat × Ws)} {x : Nat × Ws} (hk : k ≤ cs.length) (h : upto (backAt cs) k = q ++ [x]) (hq : ∀ y ∈ q, y.2.1.1 ≠ at') (hx : x.2.1.1 = at') : lastOf (cOf cs) at' = some x.2.1.2 := by
  obtain ⟨r, hr⟩ := upto_prefix (backAt cs) hk
  unfold lastOf
  rw [← back_rev, hr, h]
  simp only [List.map_append, List.append_assoc]
  rw [List.find?_append]
  have : (q.map fun y => y.2.1).find? (fun x => x.1 == at') = none := by
    rw [List.find?_eq_none]
    intro y hy
    obtain ⟨z, hz, rfl⟩ := List.mem_map.1 hy
    simpa using hq z hz
  rw [this]
  simp [hx]
theorem last_miss {cs : List Ws} {at' : Nat} (hq : ∀ y ∈ upto (backAt cs) cs.length, y.2.1.1 ≠ at') : lastOf (cOf cs) at' = none := by
  unfold lastOf
  rw [← back_rev, Option.map_eq_none_iff, List.find?_eq_none]
  intro y hy
  obtain ⟨z, hz, rfl⟩ := List.mem_map.1 hy
  simpa using hq z hz

set_option maxHeartbeats 400000 in
theorem back_any (A : Option Addr) (len cap : Nat) (w : World) :
    Calls Try.prog fBack #[.slice A len cap] w fun e w' => e = .returned (.func (.func fBack1) #[] #[.pointer (some ⟨w.heap.size, 0, none⟩)]) ∧ w' = w.alloc (.cells #[.slice A len cap] 60) := by
  go_enter Try.func30, Try.ntmps30
  go_wp2
  go_ret
  exact ⟨rfl, rfl⟩

set_option maxRecDepth 100000 in
set_option maxHeartbeats 1000000 in
theorem back1_in (l Bs n₀ g cap : Nat) (L : List Value) (c : List Ws) (hsm : c.length ≤ 1048576) (hg : g < n₀) (J Jx : List (Nat × Ws) → World → Prop)
    (hY : ∀ pre x W, J pre W → pre.length < c.length → YieldAt Fence.wide 7 Try.prog l (wEncs x) W fun e W' =>
      (e = .returned (.bool true) ∧ J (pre ++ [x]) W' ∧ Below n₀ W W') ∨ (e = .returned (.bool false) ∧ Jx (pre ++ [x]) W'))
    (W : World) (hBs : W.cell? ⟨Bs, 0, none⟩ = some (.slice (some ⟨g, 0, none⟩) c.length cap)) (hBn : Bs < n₀) (hb : Blk W g tWrite L.toArray) (hL : L.take (c.length * 129) = cacheCells (cOf c)) (hLn : c.length * 129 ≤ L.length) (h0 : J [] W) :
    CallsIn Fence.wide 8 Try.prog fBack1 #[.func (.yield l) #[] #[], .pointer (some ⟨Bs, 0, none⟩)] W fun e W' => (∃ v, e = .returned v) ∧
      ((∃ ys, ys = upto (backAt c) c.length ∧ J ys W') ∨ (∃ pre, (∃ k, k ≤ c.length ∧ pre = upto (backAt c) k) ∧ Jx pre W')) := by
  have HL := Lib.hid hL
  have HB := Lib.hid hb
  clear hL hb
  refine callsIn_of_wp Try.func35 rfl trivial ?_ rfl
  simp only [Try.ntmps35, List.size_toArray, List.length_cons, List.length_nil, Nat.reduceAdd, Nat.reduceSub, Array.replicate_succ, Array.replicate_zero, List.push_toArray, List.append_toArray, List.nil_append, List.cons_append]
  gi_wp2
  gi_loopw [3] (fun i wr => ∃ k : Nat, k ≤ c.length ∧ i = .int .i64 ((c.length : Int) - 1 - k) ∧ J (upto (backAt c) k) wr ∧ Below n₀ W wr)
    (fun i _ => (intOf i + 1).toNat)
  case atStart => exact ⟨0, Nat.zero_le _, by simp, h0, Below.refl _ _⟩
  case round =>
    obtain ⟨k, hk, rfl, hJs, hnx⟩ := hrel
    have hcx : wr.cell? ⟨Bs, 0, none⟩ = some (.slice (some ⟨g, 0, none⟩) c.length cap) := (hnx.cell (p := ⟨Bs, 0, none⟩) hBn).trans hBs
    have HNX := Lib.hid hnx
    have HJ := Lib.hid hJs
    clear hnx hJs hBs
    by_cases hlt : k < c.length
    · obtain ⟨fn, tmps, assign, body, hy, hR⟩ := hY _ (backAt c k) wr HJ.out (by rw [upto_length]; exact hlt)
      obtain ⟨m, hm⟩ : ∃ m : Nat, c.length - 1 - k = m := ⟨_, rfl⟩
      have hml : m < c.length := by omega
      have hmi : (c.length : Int) - 1 - k = (m : Int) := by omega
      have hba : backAt c k = (m, c[m]) := by simp [backAt, hm, List.getD, List.getElem?_eq_getElem hml]
      have hgr := HB.out.below HNX.out hg
      have hseg := flat_seg' writeCells 129 (cOf c) (writeCells_len _ (cOf_whole c)) L (by rw [cOf_length]; exact HL.out) m (by rw [cOf_length]; exact hml)
      rw [cOf_get c m hml] at hseg
      have hfit : m * 129 + 129 ≤ L.length := by have := Nat.mul_le_mul_right 129 hml; rw [Nat.succ_mul] at this; omega
      rw [hba] at hR
      rw [hmi]
      rw [hba] at hy
      simp only [wEncs] at hR hy
      have HBA := Lib.hid hba
      have HM := Lib.hid hm
      have HSEG := Lib.hid hseg
      have HFIT := Lib.hid hfit
      have HGR := Lib.hid hgr
      have HMI := Lib.hid hmi
      clear hba hm hseg hfit hgr hmi
      generalize hx : c[m] = x at *
      have HX := Lib.hid hx
      clear hx
      gi_wp2_with (first
        | (refine G_load_as rfl tWrite (.tmp 15) rfl g (m * 129) 129 tWrite L (writeCells x.1) rfl HGR.out Try.underlying66 rfl sizeWrite HFIT.out HSEG.out ?_))
      refine hR.mono ?_
      rintro e W3 (⟨rfl, hJ3, hk3⟩ | ⟨rfl, hJx3⟩)
      · gi_wp2
        go_roundw
        case rel => exact ⟨k + 1, by omega, by have := HM.out; congr 1; omega, by rw [upto_succ]; rw [HBA.out]; exact hJ3, HNX.out.trans hk3⟩
        case measure => simp [intOf]
      · gi_wp2
        refine bodyPost_ret (results_none rfl _ _ _) rfl ?_
        exact ⟨⟨_, rfl⟩, .inr ⟨_, ⟨k + 1, by omega, rfl⟩, by rw [upto_succ]; rw [HBA.out]; exact hJx3⟩⟩
    · obtain rfl : k = c.length := by omega
      gi_wp2
      go_end0
      exact ⟨⟨_, rfl⟩, .inl ⟨_, rfl, HJ.out⟩⟩

/-- A disk's cache as slices.Backward sees it. -/
theorem back_stops {w : World} {cv : Value} {c : List Ws} {n₀ Bs : Nat} (h : w.ownsRow 0 tWrite 129 cv c.length (cacheCells (cOf c))) (hsm : c.length ≤ 1048576) (hB : Bs < n₀) (hBs : w.cell? ⟨Bs, 0, none⟩ = some cv)
    (hn : n₀ ≤ w.heap.size) (hown : ∀ g, cv.ownBlock = some g → g < n₀) (hpos : 0 < c.length) :
    SeqStopsK Fence.wide 8 Try.prog fBack1 #[.pointer (some ⟨Bs, 0, none⟩)] wEncs (Below n₀) (fun ys => ys = upto (backAt c) c.length) (fun pre => ∃ k, k ≤ c.length ∧ pre = upto (backAt c) k) c.length w := by
  intro l J Jx W hW _ _ hY h0
  obtain ⟨A, cap, rfl, _, hrow⟩ := own_slice h
  obtain ⟨g, L, rfl, hg, hL, hLn⟩ := hrow hpos
  have hgn : g < n₀ := hown g rfl
  have hB' := (hW.cell (p := ⟨Bs, 0, none⟩) (by exact Nat.lt_of_lt_of_le hB hn)).trans hBs
  exact back1_in l Bs n₀ g cap L c hsm hgn J Jx hY W hB' hB (hg.below hW (Nat.lt_of_lt_of_le hgn hn)) hL hLn h0
end Go.Proofs.Ytmhmfcphjfgppaa
