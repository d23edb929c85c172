/- Whether depths are nested, as a plain function; blocks of Booleans. -/
import Derived.Test.YtfhikdgdckfalaaRun
import Derived.Test.YtfhikdgdckfalaaMB01
namespace Go.Proofs.Ytfhikdgdckfalaa
open Go.RowKit
set_option linter.unusedVariables false

/-- The greatest sum of k depths (n elements). -/
def mostN (ds : List Int) (n k : Nat) : Int := maxV (fun i => runV ds i k) (n - k)
/-- Whether the run of k depths from i on ends a chain. -/
def goodN (ds : List Int) (n : Nat) : Nat → Nat → Bool
  | 0, _ => false
  | k + 1, i => decide (runV ds i (k + 1) = mostN ds n (k + 1)) && (decide (k = 0) || (goodN ds n k i || goodN ds n k (i + 1)))
def anyTo (f : Nat → Bool) : Nat → Bool
  | 0 => false
  | i + 1 => anyTo f i || f i
def nestTo (ds : List Int) (n : Nat) : Nat → Bool
  | 0 => true
  | k + 1 => nestTo ds n k && anyTo (goodN ds n (k + 1)) (n - k)
def nestV (ds : List Int) : Bool := nestTo ds ds.length ds.length
theorem nestTo_mono {ds : List Int} {n : Nat} : ∀ {m k : Nat}, k ≤ m → nestTo ds n m = true → nestTo ds n k = true
  | 0, k, h, hm => by obtain rfl : k = 0 := by omega
                      exact hm
  | m + 1, k, h, hm => by
    by_cases e : k = m + 1
    · subst e; exact hm
    · rw [nestTo, Bool.and_eq_true] at hm
      exact nestTo_mono (m := m) (by omega) hm.1
/-- The greatest of the first i sums, 0 if there is none. -/
def pmV (F : Nat → Int) : Nat → Int
  | 0 => 0
  | i + 1 => maxV F i
theorem pmV_step {F : Nat → Int} {i : Nat} (h : 0 ≤ F i) (h0 : 0 ≤ F 0) : pmV F (i + 1) = if pmV F i < F i then F i else pmV F i := by
  match i with
  | 0 => rw [pmV, pmV, maxV]; split <;> omega
  | i + 1 => rw [pmV, pmV, maxV]
theorem run_bd {zs : List Int} (hz : ∀ z ∈ zs, z ≤ 4194304) {i k : Nat} (h : i + k ≤ zs.length) (hn : zs.length ≤ 10000) : 0 ≤ runV zs i k ∧ runV zs i k ≤ 41943040000 := by
  have h1 := sumM_bd (M := 4194304) (by omega) hz (show i + k ≤ zs.length from h)
  have h2 : sumF (mx0 zs) (i + k) - sumF (mx0 zs) i = sumF (fun j => mx0 zs (i + j)) k := (sumF_from _ _ _).symm
  have h3 : 0 ≤ sumF (fun j => mx0 zs (i + j)) k := sumF_nonneg fun j hj => (mx0_bd (M := 4194304) (by omega) hz (by omega)).1
  have h4 := sumM_bd (M := 4194304) (by omega) hz (show i ≤ zs.length by omega)
  unfold runV
  have : ((i + k : Nat) : Int) * 4194304 ≤ 41943040000 := by omega
  omega

/-- Block g holds the Booleans F 0, .., F (n - 1) and may be written. -/
structure BRow (w : World) (g n : Nat) (F : Nat → Bool) : Prop where
  cell : ∀ j, j < n → w.cell? ⟨g, j, none⟩ = some (.bool (F j))
  free : ∀ j, w.frozen? ⟨g, j, none⟩ = false
  lt : g < w.heap.size
theorem BRow.below {w w' : World} {g n : Nat} {F : Nat → Bool} (h : BRow w g n F) {B : Nat} (hb : Below B w w') (hg : g < B) : BRow w' g n F :=
  ⟨fun j hj => (hb.cell (p := ⟨g, j, none⟩) hg).trans (h.cell j hj), fun j => (hb.frozen (p := ⟨g, j, none⟩) hg).trans (h.free j), Nat.lt_of_lt_of_le h.lt hb.size⟩
theorem BRow.drewN {w : World} {g n : Nat} {F : Nat → Bool} (h : BRow w g n F) (d : Nat) : BRow (w.drewN d) g n F := ⟨h.cell, h.free, h.lt⟩
theorem BRow.congr {w : World} {g n : Nat} {F G : Nat → Bool} (h : BRow w g n F) (e : ∀ k, k < n → F k = G k) : BRow w g n G := ⟨fun j hj => by rw [← e j hj]; exact h.cell j hj, h.free, h.lt⟩
theorem BRow.far {w : World} {g n : Nat} {F : Nat → Bool} (h : BRow w g n F) {p : Addr} (hp : g ≠ p.block) (u : Value) : BRow (w.setCell p u) g n F :=
  ⟨fun j hj => by rw [World.cell?_setCell_other w _ _ _ (by intro e; exact hp (by rw [e]))]; exact h.cell j hj, fun j => by rw [World.frozen?_setCell]; exact h.free j, by simp [World.setCell]; exact h.lt⟩
theorem BRow.set {w : World} {g n : Nat} {F : Nat → Bool} (h : BRow w g n F) (k : Nat) (x : Bool) : BRow (w.setCell ⟨g, k, none⟩ (.bool x)) g n (fun j => if j = k then x else F j) := by
  refine ⟨fun j hj => ?_, fun j => ?_, by simp [World.setCell]; exact h.lt⟩
  · by_cases hjk : j = k
    · subst hjk
      rw [if_pos rfl]
      exact World.cell?_setCell_same (u := .bool (F j)) w ⟨g, j, none⟩ _ (h.cell j hj)
    · rw [if_neg hjk, World.cell?_setCell_other w _ _ _ (by intro e; injection e; omega)]
      exact h.cell j hj
  · rw [World.frozen?_setCell]; exact h.free j
theorem info_bool : (Try.prog.info? 4).map (fun i => (i.zero, i.size, i.bytes)) = some (some (.bool false), 1, 1) := by kernel_rfl
theorem make_bools (n : Nat) (h : n ≤ 17592186044416) (w : World) : (Instr.makeSlice 78 (.int .i64 (n : Int)) (.int .i64 (n : Int))).run Try.prog w = .ok (.slice (some ⟨w.heap.size, 0, none⟩) n n) (w.alloc (.cells (madeCells #[.bool false] n) 4)) := by
  obtain ⟨i0, hi, hz0, hz1, hz2⟩ := info_parts info_bool
  have hr := run_make (P := Try.prog) w 78 4 i0 (.bool false) Try.underlying78 hi hz0 .i64 .i64 n n (by omega) (by omega) (by rw [hz2]; omega) (by omega)
  simp only [Int.toNat_natCast, hz1, Nat.mul_one] at hr
  exact hr
theorem BRow.made (w : World) (n : Nat) : BRow (w.alloc (.cells (madeCells #[.bool false] n) 4)) w.heap.size n (fun _ => false) := by
  refine ⟨fun j hj => ?_, fun j => by simp, by simp⟩
  rw [World.cell?_alloc_new]
  have : (madeCells #[Value.bool false] n)[j]? = some (.bool false) := by
    rw [← Array.getElem?_toList, toList_madeCells_one]; simp [hj]
  exact this
/-- The first i are known, the others not yet. -/
def nxF (G : Nat → Bool) (i j : Nat) : Bool := if j < i then G j else false
theorem nxF_step (G : Nat → Bool) (i j : Nat) : (if j = i then G i else nxF G i j) = nxF G (i + 1) j := by
  unfold nxF
  by_cases h : j = i
  · subst h; rw [if_pos rfl, if_pos (by omega)]
  · rw [if_neg h]
    by_cases h2 : j < i
    · rw [if_pos h2, if_pos (by omega)]
    · rw [if_neg h2, if_neg (by omega)]
end Go.Proofs.Ytfhikdgdckfalaa
