/- Blocks around a peak: each number of the greatest blocks stands in one run around the peak. No program in sight. -/
import Derived.Test.YtfhikdgdckfalaaMB10
import Derived.Test.YtfhikdgdckfalaaNestLaw
namespace Go.Proofs.Ytfhikdgdckfalaa
open Go.RowKit
set_option linter.unusedVariables false

/-- Where the first k placed blocks begin. -/
def aW (n p : Nat) (S : Nat → Int) (k : Nat) : Nat := ((plA n p S k).l + 1).toNat
structure WinOk (n p k a : Nat) (l r : Int) : Prop where
  l : l = (a : Int) - 1
  r : r = (a : Int) + k
  a0 : a ≤ p
  a1 : p < a + k
  a2 : a + k ≤ n
theorem aW_ok {n p : Nat} (S : Nat → Int) (hp : p < n) {k : Nat} (h1 : 1 ≤ k) (hk : k ≤ n) : WinOk n p k (aW n p S k) (plA n p S k).l (plA n p S k).r := by
  have h := plA_ok S hp (k - 1) (by omega)
  rw [show k - 1 + 1 = k by omega] at h
  obtain ⟨q0, q1, q2, q3, q4⟩ := h
  unfold aW
  exact ⟨by omega, by omega, by omega, by omega, by omega⟩
theorem aW_step {n p : Nat} (S : Nat → Int) (hp : p < n) {k : Nat} (h1 : 1 ≤ k) (hk : k + 1 ≤ n) :
    (aW n p S (k + 1) = aW n p S k ∧ (plA n p S (k + 1)).f = upd (plA n p S k).f (aW n p S k + k) (S k)) ∨ (aW n p S (k + 1) + 1 = aW n p S k ∧ (plA n p S (k + 1)).f = upd (plA n p S k).f (aW n p S (k + 1)) (S k)) := by
  have h := aW_ok S hp h1 (show k ≤ n by omega)
  have h' := aW_ok S hp (k := k + 1) (by omega) hk
  by_cases c : ((plA n p S k).r < n ∧ k % 2 = 1) ∨ (plA n p S k).l < 0
  · left
    have e : plA n p S (k + 1) = _ := plA_right (by omega) c
    have el : (plA n p S (k + 1)).l = (plA n p S k).l := by rw [e]
    have ef : (plA n p S (k + 1)).f = upd (plA n p S k).f (plA n p S k).r.toNat (S k) := by rw [e]
    have q1 := h.l
    have q2 := h'.l
    have q3 := h.r
    exact ⟨by omega, by rw [ef, q3]; rfl⟩
  · right
    have e : plA n p S (k + 1) = _ := plA_left (by omega) c
    have el : (plA n p S (k + 1)).l = (plA n p S k).l - 1 := by rw [e]
    have ef : (plA n p S (k + 1)).f = upd (plA n p S k).f (plA n p S k).l.toNat (S k) := by rw [e]
    have q1 := h.l
    have q2 := h'.l
    refine ⟨by omega, ?_⟩
    rw [ef, show (plA n p S k).l.toNat = aW n p S (k + 1) by omega]
theorem aW_one {n p : Nat} (S : Nat → Int) : aW n p S 1 = p := by
  unfold aW; rw [plA_one]; show ((p : Int) - 1 + 1).toNat = p; omega
theorem sumF_head (F : Nat → Int) : ∀ k, sumF F (k + 1) = F 0 + sumF (fun j => F (j + 1)) k
  | 0 => by simp [sumF]
  | k + 1 => by rw [sumF, sumF_head F k, sumF]; omega
/-- The run of the first k placed blocks has their sum. -/
theorem win_sum (φ : Int → Int) {n p : Nat} (S : Nat → Int) (hp : p < n) : ∀ k, k + 1 ≤ n → sumF (fun i => φ ((plA n p S (k + 1)).f (aW n p S (k + 1) + i))) (k + 1) = sumF (fun j => φ (S j)) (k + 1)
  | 0, _ => by
    rw [sumF, sumF, sumF, sumF, Nat.zero_add, aW_one, plA_one]
    show 0 + φ (upd (fun _ => 0) p (S 0) (p + 0)) = _
    rw [Nat.add_zero, upd_at]
  | k + 1, h => by
    have ih := win_sum φ S hp k (by omega)
    rw [show sumF (fun j => φ (S j)) (k + 1 + 1) = sumF (fun j => φ (S j)) (k + 1) + φ (S (k + 1)) from rfl, ← ih]
    rcases aW_step S hp (k := k + 1) (by omega) h with ⟨ha, hf⟩ | ⟨ha, hf⟩
    · rw [ha, hf, sumF, upd_at]
      congr 1
      exact sumF_congr fun i hi => by rw [upd_ne _ _ (by omega)]
    · rw [hf, sumF_head, show aW n p S (k + 1 + 1) + 0 = aW n p S (k + 1 + 1) from rfl, upd_at, ← ha]
      rw [Int.add_comm]
      congr 1
      exact sumF_congr fun i hi => by rw [upd_ne _ _ (by omega), show aW n p S (k + 1 + 1) + (i + 1) = aW n p S (k + 1 + 1) + 1 + i by omega]
/-- Later blocks stand outside. -/
theorem win_keep {n p : Nat} (S : Nat → Int) (hp : p < n) {k : Nat} (h1 : 1 ≤ k) : ∀ m, k ≤ m → m ≤ n → aW n p S m ≤ aW n p S k ∧ aW n p S k + k ≤ aW n p S m + m ∧ ∀ i, aW n p S k ≤ i → i < aW n p S k + k → (plA n p S m).f i = (plA n p S k).f i
  | 0, h, _ => absurd h (by omega)
  | m + 1, h, hm => by
    by_cases e : k = m + 1
    · subst e; exact ⟨Nat.le_refl _, Nat.le_refl _, fun _ _ _ => rfl⟩
    · obtain ⟨i1, i2, i3⟩ := win_keep S hp h1 m (by omega) (by omega)
      rcases aW_step S hp (k := m) (by omega) hm with ⟨ha, hf⟩ | ⟨ha, hf⟩
      · refine ⟨by omega, by omega, fun i q1 q2 => ?_⟩
        rw [hf, upd_ne _ _ (by omega)]
        exact i3 i q1 q2
      · refine ⟨by omega, by omega, fun i q1 q2 => ?_⟩
        rw [hf, upd_ne _ _ (by omega)]
        exact i3 i q1 q2
theorem el_plL {n p k : Nat} (S : Nat → Int) (h : k < n) : el (plL n p S) k = (plA n p S n).f k := by
  unfold plL; exact el_fl _ h
theorem win_fin (φ : Int → Int) {n p : Nat} (S : Nat → Int) (hp : p < n) {k : Nat} (h1 : 1 ≤ k) (hk : k ≤ n) : sumF (fun i => φ (el (plL n p S) (aW n p S k + i))) k = sumF (fun j => φ (S j)) k := by
  obtain ⟨q, rfl⟩ : ∃ q, k = q + 1 := ⟨k - 1, by omega⟩
  rw [← win_sum φ S hp q hk]
  have h2 := aW_ok S hp h1 hk
  obtain ⟨-, -, h3⟩ := win_keep S hp h1 n hk (Nat.le_refl _)
  refine sumF_congr fun i hi => ?_
  have := h2.a2
  rw [el_plL S (by omega), h3 _ (by omega) (by omega)]
theorem aW_all {n p : Nat} (S : Nat → Int) (hp : p < n) : aW n p S n = 0 := by
  have := (aW_ok S hp (k := n) (by omega) (Nat.le_refl _)).a2
  omega

/-- A number, not less than 0. -/
def pz (z : Int) : Int := if z < 0 then 0 else z
theorem pz_nonneg (z : Int) : 0 ≤ pz z := by unfold pz; split <;> omega
theorem pz_mono {a b : Int} (h : a ≤ b) : pz a ≤ pz b := by unfold pz; split <;> split <;> omega
theorem sumF_const (F : Nat → Int) (c : Int) : ∀ k : Nat, sumF (fun j => F j + c) k = sumF F k + k * c
  | 0 => by simp [sumF]
  | k + 1 => by
    rw [sumF, sumF_const F c k, sumF, show ((k + 1 : Nat) : Int) * c = k * c + c by rw [Int.natCast_add, Int.add_mul]; simp]
    omega
theorem sumF_tail {F : Nat → Int} {k : Nat} : ∀ {n : Nat}, k ≤ n → (∀ j, k ≤ j → j < n → F j = 0) → sumF F n = sumF F k
  | 0, h, _ => by obtain rfl : k = 0 := by omega
                  rfl
  | n + 1, h, hz => by
    by_cases e : k = n + 1
    · subst e; rfl
    · rw [sumF, hz n (by omega) (by omega), sumF_tail (n := n) (by omega) (fun j a b => hz j a (by omega))]; omega
theorem sumF_le2 {F G : Nat → Int} : ∀ {k : Nat}, (∀ j, j < k → F j ≤ G j) → sumF F k ≤ sumF G k
  | 0, _ => Int.le_refl _
  | k + 1, h => by
    have := sumF_le2 (k := k) (fun j hj => h j (by omega))
    have := h k (by omega)
    rw [sumF, sumF]; omega
/-- No run of k numbers has more than the k greatest. -/
theorem run_top {n k i : Nat} {g T : Nat → Int} (hd : ∀ a b, a ≤ b → b < n → T b ≤ T a) (hs : ∀ t, sumF (fun j => pz (g j - t)) n = sumF (fun j => pz (T j - t)) n) (h1 : 1 ≤ k) (h : i + k ≤ n) : sumF (fun j => g (i + j)) k ≤ sumF T k := by
  obtain ⟨t, ht⟩ : ∃ t, T (k - 1) = t := ⟨_, rfl⟩
  have A : sumF (fun j => g (i + j)) k ≤ sumF (fun j => pz (g (i + j) - t) + t) k := sumF_le2 fun j hj => by unfold pz; split <;> omega
  rw [sumF_const] at A
  have B0 : sumF (fun j => pz (g (i + j) - t)) k = sumF (fun j => pz (g j - t)) (i + k) - sumF (fun j => pz (g j - t)) i := sumF_from (fun j => pz (g j - t)) i k
  have B1 : sumF (fun j => pz (g j - t)) (i + k) ≤ sumF (fun j => pz (g j - t)) n := sumF_mono (fun _ => pz_nonneg _) h
  have B2 : 0 ≤ sumF (fun j => pz (g j - t)) i := sumF_nonneg fun _ _ => pz_nonneg _
  have C : sumF (fun j => pz (T j - t)) n = sumF (fun j => pz (T j - t)) k := sumF_tail (by omega) fun j a b => by
    have := hd (k - 1) j (by omega) b
    unfold pz; split <;> omega
  have D : sumF (fun j => pz (T j - t) + t) k = sumF T k := sumF_congr fun j hj => by
    have := hd j (k - 1) (by omega) (by omega)
    unfold pz; split <;> omega
  rw [sumF_const] at D
  have := hs t
  omega
theorem sumF_cons (φ : Int → Int) (x : Int) (l : List Int) : ∀ k, sumF (fun j => φ (el (x :: l) j)) (k + 1) = φ x + sumF (fun j => φ (el l j)) k
  | k => by rw [sumF_head]; rfl
theorem insD_sum (φ : Int → Int) (x : Int) : ∀ l : List Int, sumF (fun j => φ (el (insD x l) j)) (l.length + 1) = φ x + sumF (fun j => φ (el l j)) l.length
  | [] => by rw [insD]; exact sumF_cons φ x [] 0
  | y :: r => by
    rw [insD]
    split
    · exact sumF_cons φ x (y :: r) _
    · rw [sumF_cons, List.length_cons, insD_sum φ x r, sumF_cons]; omega
theorem srtL_sum (φ : Int → Int) : ∀ l : List Int, sumF (fun j => φ (el (srtL l) j)) l.length = sumF (fun j => φ (el l j)) l.length
  | [] => rfl
  | x :: r => by
    have h := insD_sum φ x (srtL r)
    rw [srtL_len] at h
    rw [srtL, List.length_cons, h, srtL_sum φ r, sumF_cons]
theorem insD_top {x : Int} : ∀ {l : List Int}, (∀ y ∈ l, y ≤ x) → DesL l → insD x l = x :: l
  | [], _, _ => rfl
  | y :: r, h, hd => by
    rw [insD]
    split
    · rfl
    · rename_i hyx
      have e : y = x := by have := h y (by simp); omega
      subst e
      rw [insD_top hd.1 hd.2]
theorem srtL_id : ∀ {l : List Int}, DesL l → srtL l = l
  | [], _ => rfl
  | x :: r, h => by rw [srtL, srtL_id h.2, insD_top h.1 h.2]
theorem desL_of : ∀ {l : List Int}, (∀ j, j + 1 < l.length → el l (j + 1) ≤ el l j) → DesL l
  | [], _ => trivial
  | x :: r, h => by
    have hr : DesL r := desL_of fun j hj => h (j + 1) (by simpa using hj)
    refine ⟨fun y hy => ?_, hr⟩
    match r, hr, h, hy with
    | z :: q, hr, h, hy =>
      have h0 : z ≤ x := h 0 (by simp)
      rcases List.mem_cons.1 hy with e | e
      · omega
      · have := hr.1 y e; omega

section
variable {L : List Int} {p : Nat}
/-- The sum of the k greatest. -/
def topV (L : List Int) (k : Nat) : Int := sumF (fun j => pz (el (srtL L) j)) k
theorem mx0_pz (zs : List Int) (k : Nat) : mx0 zs k = pz (el zs k) := rfl
theorem runV_pz (zs : List Int) (i k : Nat) : runV zs i k = sumF (fun j => pz (el zs (i + j))) k := by
  unfold runV
  rw [← sumF_from]
  exact sumF_congr fun j _ => mx0_pz zs _
theorem placL_len : (placL L p).length = L.length := by unfold placL plL; exact fl_length _ _
theorem top_desc (L : List Int) : ∀ a b, a ≤ b → b < L.length → pz (el (srtL L) b) ≤ pz (el (srtL L) a) := fun a b hab hb => pz_mono ((srtL_of L).1 a b (Nat.zero_le _) hab hb)
theorem top_L {i k : Nat} (h1 : 1 ≤ k) (h : i + k ≤ L.length) : runV L i k ≤ topV L k := by
  rw [runV_pz]
  exact run_top (g := fun j => pz (el L j)) (top_desc L) (fun t => (srtL_sum (fun z => pz (pz z - t)) L).symm) h1 h
theorem plac_win (φ : Int → Int) (hp : p < L.length) {k : Nat} (h1 : 1 ≤ k) (hk : k ≤ L.length) : sumF (fun i => φ (el (placL L p) (aW L.length p (el (srtL L)) k + i))) k = sumF (fun j => φ (el (srtL L) j)) k :=
  win_fin φ (el (srtL L)) hp h1 hk
theorem plac_sum (φ : Int → Int) (hp : p < L.length) : sumF (fun i => φ (el (placL L p) i)) L.length = sumF (fun j => φ (el (srtL L) j)) L.length := by
  rw [← plac_win φ hp (by omega) (Nat.le_refl _), aW_all _ hp]
  exact sumF_congr fun j _ => by rw [Nat.zero_add]
theorem top_K (hp : p < L.length) {i k : Nat} (h1 : 1 ≤ k) (h : i + k ≤ L.length) : runV (placL L p) i k ≤ topV L k := by
  rw [runV_pz]
  exact run_top (g := fun j => pz (el (placL L p) j)) (top_desc L) (fun t => plac_sum (fun z => pz (pz z - t)) hp) h1 h
theorem top_at (hp : p < L.length) {k : Nat} (h1 : 1 ≤ k) (hk : k ≤ L.length) : runV (placL L p) (aW L.length p (el (srtL L)) k) k = topV L k := by
  rw [runV_pz]; exact plac_win pz hp h1 hk
theorem top_des (hd : DesL L) (k : Nat) : runV L 0 k = topV L k := by
  rw [runV_pz]
  unfold topV
  rw [srtL_id hd]
  exact sumF_congr fun j _ => by rw [Nat.zero_add]
theorem top_all : runV L 0 L.length = topV L L.length := by
  rw [runV_pz]
  unfold topV
  rw [srtL_sum pz L]
  exact sumF_congr fun j _ => by rw [Nat.zero_add]
theorem most_top (hp : p < L.length) {k : Nat} (h1 : 1 ≤ k) (hk : k ≤ L.length) : mostN (placL L p) L.length k = topV L k := by
  unfold mostN
  have ok := aW_ok (el (srtL L)) hp h1 hk
  have a2 := ok.a2
  have g := maxV_ge (fun i => runV (placL L p) i k) (n := L.length - k) (k := aW L.length p (el (srtL L)) k) (by omega)
  obtain ⟨j, j1, j2⟩ := maxV_at (fun i => runV (placL L p) i k) (L.length - k)
  have u := top_K hp h1 (show j + k ≤ L.length by omega)
  have e := top_at hp h1 hk
  rw [j2] at g ⊢
  omega
theorem good_win (hp : p < L.length) : ∀ k, k + 1 ≤ L.length → goodN (placL L p) L.length (k + 1) (aW L.length p (el (srtL L)) (k + 1)) = true
  | 0, h => by
    show (decide _ && (decide ((0 : Nat) = 0) || _)) = true
    rw [decide_eq_true (show _ = _ from (top_at hp (by omega) h).trans (most_top hp (by omega) h).symm)]
    rfl
  | k + 1, h => by
    have ih := good_win hp k (by omega)
    show (decide _ && (decide (k + 1 = 0) || _)) = true
    rw [decide_eq_true (show _ = _ from (top_at hp (k := k + 1 + 1) (by omega) h).trans (most_top hp (by omega) h).symm), Bool.true_and, Bool.or_eq_true, Bool.or_eq_true]
    right
    rcases aW_step (el (srtL L)) hp (k := k + 1) (by omega) h with ⟨ha, -⟩ | ⟨ha, -⟩
    · left; rw [ha]; exact ih
    · right; rw [ha]; exact ih
theorem anyTo_at {f : Nat → Bool} : ∀ {n i : Nat}, i < n → f i = true → anyTo f n = true
  | 0, i, h, _ => absurd h (by omega)
  | n + 1, i, h, hf => by
    rw [anyTo, Bool.or_eq_true]
    by_cases e : i = n
    · subst e; exact .inr hf
    · exact .inl (anyTo_at (by omega) hf)
theorem plac_nests (hp : p < L.length) : nestV (placL L p) = true := by
  unfold nestV
  rw [placL_len]
  have key : ∀ k, k ≤ L.length → nestTo (placL L p) L.length k = true := fun k => by
    induction k with
    | zero => intro _; rfl
    | succ k ih =>
      intro h
      rw [nestTo, ih (by omega), Bool.true_and]
      have ok := aW_ok (el (srtL L)) hp (k := k + 1) (by omega) h
      have := ok.a2
      exact anyTo_at (i := aW L.length p (el (srtL L)) (k + 1)) (by omega) (good_win hp k h)
  exact key _ (Nat.le_refl _)
theorem plac_peak (hp : p < L.length) : el (placL L p) p = maxL L := by
  have e0 : el (placL L p) p = el (srtL L) 0 := by
    have h := plac_win (fun z => z) hp (k := 1) (by omega) (by omega)
    rw [aW_one, sumF, sumF, sumF, sumF, Nat.add_zero] at h
    omega
  rw [e0]
  unfold maxL
  obtain ⟨j, j1, j2⟩ := maxV_at (el L) (L.length - 1)
  have DO := srtL_of L
  obtain ⟨i, i1, i2⟩ := DO.2.2 0 (by omega)
  have m1 := maxV_ge (el L) (n := L.length - 1) (k := i) (by omega)
  obtain ⟨t, t1, t2⟩ := cN_pos (x := el L j) (F := el (srtL L)) (n := L.length) (by rw [DO.2.1]; exact cN_at (by omega))
  have := DO.1 0 t (Nat.le_refl _) (Nat.zero_le _) t1
  omega
theorem plac_rng (hp : p < L.length) {M : Int} (h0 : 0 ≤ M) (h : ∀ k, k < L.length → 0 ≤ el L k ∧ el L k ≤ M) : ∀ z ∈ placL L p, 0 ≤ z ∧ z ≤ M := fun z hz => by
  obtain ⟨k, hk, rfl⟩ := fl_mem (show z ∈ fl L.length _ from hz)
  exact plA_rng (a := 0) (b := M) ⟨Int.le_refl _, h0⟩ _ (fun j hj => by
    obtain ⟨i, i1, i2⟩ := (srtL_of L).2.2 j hj
    rw [i2]; exact h i i1) k
end

/-- The sum of the last k of i numbers; the greatest of these. -/
def slF (F : Nat → Int) (k i : Nat) : Int := F i - F (i - k)
def grV (F : Nat → Int) (k : Nat) : Nat → Int
  | 0 => 0
  | i + 1 => if grV F k i < slF F k (i + 1) then slF F k (i + 1) else grV F k i
theorem grV_ge {F : Nat → Int} {k i : Nat} : ∀ {n : Nat}, i ≤ n → slF F k i ≤ grV F k n
  | 0, h => by obtain rfl : i = 0 := by omega
               unfold slF; rw [Nat.zero_sub]; show F 0 - F 0 ≤ 0; omega
  | n + 1, h => by
    rw [grV]
    by_cases e : i = n + 1
    · subst e; split <;> omega
    · have := grV_ge (F := F) (k := k) (i := i) (n := n) (by omega); split <;> omega
theorem grV_le {F : Nat → Int} {k : Nat} {B : Int} (h0 : 0 ≤ B) : ∀ {n : Nat}, (∀ i, i ≤ n → slF F k i ≤ B) → grV F k n ≤ B
  | 0, _ => h0
  | n + 1, h => by
    rw [grV]
    have := grV_le (F := F) (k := k) h0 (n := n) (fun i hi => h i (by omega))
    have := h (n + 1) (Nat.le_refl _)
    split <;> omega
def grL (zs : List Int) (k : Nat) : Int := grV (sumF (mx0 zs)) k zs.length
theorem grL_ge {zs : List Int} {i k : Nat} (h : i + k ≤ zs.length) : runV zs i k ≤ grL zs k := by
  have := grV_ge (F := sumF (mx0 zs)) (k := k) h
  unfold slF at this
  rw [show i + k - k = i by omega] at this
  exact this
theorem grL_le {zs : List Int} {k : Nat} {B : Int} (hk : k ≤ zs.length) (h : ∀ i, i + k ≤ zs.length → runV zs i k ≤ B) : grL zs k ≤ B := by
  have nn : ∀ j, 0 ≤ mx0 zs j := fun j => by rw [mx0_pz]; exact pz_nonneg _
  have B0 : 0 ≤ B := by
    have := h 0 (by omega)
    have e : (0 : Int) ≤ runV zs 0 k := by rw [runV_pz]; exact sumF_nonneg fun _ _ => pz_nonneg _
    omega
  refine grV_le B0 fun i hi => ?_
  by_cases hik : k ≤ i
  · have := h (i - k) (by omega)
    unfold runV at this
    rw [show i - k + k = i by omega] at this
    exact this
  · have h1 := h 0 (by omega)
    unfold runV at h1
    unfold slF
    rw [show i - k = 0 by omega]
    rw [Nat.zero_add] at h1
    have h2 : sumF (mx0 zs) i ≤ sumF (mx0 zs) k := sumF_mono nn (by omega)
    omega
theorem gr_K {L : List Int} {p : Nat} (hp : p < L.length) {k : Nat} (h1 : 1 ≤ k) (hk : k ≤ L.length) : grL (placL L p) k = topV L k := by
  have ok := aW_ok (el (srtL L)) hp h1 hk
  have a2 := ok.a2
  have g := grL_ge (zs := placL L p) (i := aW L.length p (el (srtL L)) k) (k := k) (by rw [placL_len]; exact a2)
  have l := grL_le (zs := placL L p) (k := k) (B := topV L k) (by rw [placL_len]; exact hk) (fun i hi => top_K hp h1 (by rw [placL_len] at hi; exact hi))
  have e := top_at hp h1 hk
  omega
theorem gr_L {L : List Int} {k : Nat} (h1 : 1 ≤ k) (hk : k ≤ L.length) : grL L k ≤ topV L k := grL_le hk fun i hi => top_L h1 hi
end Go.Proofs.Ytfhikdgdckfalaa
