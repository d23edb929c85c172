/- insertionSortCmpFunc: a range of a row, sorted. -/
import Derived.Test.YtfhikdgdckfalaaMB10
import Derived.BigQuiet

namespace Go.Proofs.Ytfhikdgdckfalaa
open Go.RowKit
set_option linter.unusedVariables false

theorem cmpV_lt {x y : Int} : cmpV y x < 0 ↔ y < x := by
  unfold cmpV; split
  · constructor <;> omega
  · split <;> constructor <;> omega
theorem placed1_q (x y : Int) (w : World) (j : Nat) :
    Calls Try.prog 83 #[.int .i64 x, .int .i64 y] (w.drewN j) fun e w'' => e = .returned (.int .i64 (cmpV y x)) ∧ ∃ m, w'' = w.drewN m :=
  (placed1_calls x y (w.drewN j)).mono fun e w' h => ⟨h.1, j, h.2.symm⟩
/-- A range of the row in another order, descending. -/
def Sorted (a b g n c : Nat) (F : Nat → Int) (w : World) (e : Ending) (w' : World) : Prop := e = .returned (.tuple #[]) ∧ ∃ G, SRow w' g n c G ∧ Below g w w' ∧ Mv a b n F G ∧ Desc a b G
theorem below_dn {B : Nat} {a w : World} (h : Below B a w) (n : Nat) : Below B a (w.drewN n) := ⟨h.os, h.tape, h.output, h.size, h.block⟩
theorem below_d1 {B : Nat} {a w : World} (h : Below B a w) : Below B a w.drew := ⟨h.os, h.tape, h.output, h.size, h.block⟩

set_option maxRecDepth 100000 in
set_option maxHeartbeats 4000000 in
theorem insertion_calls {g n c : Nat} {F : Nat → Int} (a b : Nat) (w : World) (h : SRow w g n c F) (h1 : a ≤ b) (h2 : b ≤ n) :
    Calls Try.prog 97 #[.slice (some ⟨g, 0, none⟩) n c, .int .i64 a, .int .i64 b, cmpP] w (Sorted a b g n c F w) := by
  have hc := h.hc
  have hm := h.hm
  have hf := h.hf
  have H := Lib.hid h
  have mixed : Try.prog.follows Departure.mixedOrders = true := by kernel_rfl
  clear h
  go_enter Try.func97, Try.ntmps97
  go_wp2
  go_loopw [8] (fun vi wr => ∃ (i : Nat) (K : Nat → Int), vi = .int .i64 i ∧ a < i ∧ i ≤ b + 1 ∧ SRow wr g n c K ∧ Mv a b n F K ∧ Desc a i K ∧ Below g w wr ∧ (i = b + 1 → b = a)) (fun vi _ => b + 1 - (intOf vi).toNat)
  case atStart => exact ⟨a + 1, F, by go_num, by omega, by omega, H.out, Mv.refl _ _ _ _, Desc.one _ _ _ (by omega), Below.refl _ _, fun _ => by omega⟩
  case round =>
    obtain ⟨i, K, rfl, ai, ib, hr, hmv, hd, hb, hlast⟩ := hrel
    generalize wr = wo at *
    have HR := Lib.hid hr
    have HB := Lib.hid hb
    have HM := Lib.hid hmv
    have HD := Lib.hid hd
    clear hr hb hmv hd
    by_cases hlt : (i : Int) < (b : Int)
    · go_wp2
      go_loopw [9] (fun vj wr => ∃ (j : Nat) (K : Nat → Int), vj = .int .i64 j ∧ a ≤ j ∧ j ≤ i ∧ SRow wr g n c K ∧ Mv a b n F K ∧ Ins a i j K ∧ Below g w wr) (fun vj _ => (intOf vj).toNat)
      case atStart => exact ⟨i, K, rfl, by omega, Nat.le_refl _, HR.out, HM.out, Ins.start HD.out, HB.out⟩
      case round =>
        clear HR HB HM HD K hlast
        obtain ⟨j, K, rfl, aj, ji, hr, hmv, hd, hb⟩ := hrel
        rename_i wy
        generalize wr = wq at *
        have HR := Lib.hid hr
        have HB := Lib.hid hb
        have HM := Lib.hid hmv
        have HD := Lib.hid hd
        clear hr hb hmv hd
        by_cases haj : a < j
        · obtain ⟨p, hp⟩ : ∃ p, p + 1 = j := ⟨j - 1, by omega⟩
          have P := HR.out.pair (i := j) (j := p) (by omega) (by omega)
          obtain ⟨ca, cb, -, -, -, -⟩ := P
          have PR := Lib.hid (fun W (h : SRow W g n c K) => h.pair (i := j) (j := p) (by omega) (by omega))
          have ST := Lib.hid (fun (hl : K p < K j) => (by subst hp; exact HD.out.step (by omega) ji hl : Ins a i p (swp K j p)))
          have SM := Lib.hid (HM.out.trans (Mv.swp K (i := j) (j := p) (by omega) (by omega) (by omega) (by omega) h2))
          have DN := Lib.hid (fun (hl : K j ≤ K p) => HD.out.done (.inr ⟨by omega, by rw [show j - 1 = p by omega]; exact hl⟩))
          generalize swp K j p = K1 at *
          generalize K p = y at *
          generalize K j = x at *
          have SQ := Lib.hid (fun d => placed1_q x y wq d)
          have eq1 : (j : Int) - 1 = (p : Int) := by omega
          have hqa : (a : Int) < (j : Int) := by omega
          have hqd : decide ((j : Int) > (a : Int)) = true := decide_eq_true (by omega)
          have bq : (j : Int) < (n : Int) := by omega
          have bp : (p : Int) < (n : Int) := by omega
          have rq : IntKind.i64.wrap (j : Int) = (j : Int) := IntWalk.i64_in _ (by omega)
          have rp : IntKind.i64.wrap (p : Int) = (p : Int) := IntWalk.i64_in _ (by omega)
          by_cases hl : y < x
          · have hv : cmpV y x < 0 := cmpV_lt.2 hl
            have hd1 : decide (cmpV y x < 0) = true := decide_eq_true hv
            have ST1 := Lib.hid (ST.out hl)
            clear ST DN hl HM HD
            generalize cmpV y x = v at *
            go_wp2_with fail
            go_quiet ((go_at_call 83; exact SQ.out _))
            have HR2 := Lib.hid (HR.out.drewN nq)
            have HB2 := Lib.hid (below_dn HB.out nq)
            clear SQ ca cb HR HB hd1 hqd
            generalize wq.drewN nq = w2 at *
            obtain ⟨ca, cb, fa, fb, ⟨u, cc⟩, nx⟩ := PR.out w2 HR2.out
            have NX := Lib.hid nx
            have NB := Lib.hid (below_swap HB2.out (Nat.le_refl g) j p (.int .i64 y) (.int .i64 x))
            clear nx PR
            go_wp2_with fail
            go_big_region_o
            clear ca cb fa fb cc
            generalize ((w2.setCell ⟨g, j, none⟩ (.int .i64 y)).setCell ⟨g, p, none⟩ (.int .i64 x)).drew = w3 at *
            go_wp2
            go_roundw
            case rel => exact ⟨p, K1, by go_num, by omega, by omega, NX.out, SM.out, ST1.out, NB.out⟩
            case measure => simp [intOf]; try omega
          · have hv : ¬ cmpV y x < 0 := fun h => hl (cmpV_lt.1 h)
            have hd1 : decide (cmpV y x < 0) = false := decide_eq_false hv
            have DN1 := Lib.hid (DN.out (by omega))
            clear ST DN hl HD PR SM
            generalize cmpV y x = v at *
            go_wp2_with fail
            go_quiet ((go_at_call 83; exact SQ.out _))
            have HR2 := Lib.hid (HR.out.drewN nq)
            have HB2 := Lib.hid (below_dn HB.out nq)
            clear SQ ca cb HR HB hd1 hqd
            generalize wq.drewN nq = w2 at *
            go_wp2
            go_roundw
            case rel => exact ⟨i + 1, K, by go_num, by omega, by omega, HR2.out, HM.out, DN1.out, HB2.out, fun _ => by omega⟩
            case measure => simp [intOf]; try omega
        · obtain rfl : j = a := by omega
          have hqd : decide ((j : Int) > (j : Int)) = false := decide_eq_false (by omega)
          have hqa : ¬ (j : Int) < (j : Int) := by omega
          go_wp2_with fail
          go_big_region_o
          have HR2 := Lib.hid HR.out.drew
          have HB2 := Lib.hid (below_d1 HB.out)
          have DN1 := Lib.hid (HD.out.done (.inl rfl))
          clear HR HB hqd HD
          generalize wq.drew = w2 at *
          go_wp2
          go_roundw
          case rel => exact ⟨i + 1, K, by go_num, by omega, by omega, HR2.out, HM.out, DN1.out, HB2.out, fun _ => by omega⟩
          case measure => simp [intOf]; try omega
    · go_wp2
      go_end0
      refine ⟨rfl, K, HR.out, HB.out, HM.out, HD.out.sub (Nat.le_refl _) ?_⟩
      omega
end Go.Proofs.Ytfhikdgdckfalaa

/- symMergeCmpFunc where one of the two runs has one element. -/
namespace Go.Proofs.Ytfhikdgdckfalaa
open Go.RowKit
set_option linter.unusedVariables false

set_option maxRecDepth 100000 in
set_option maxHeartbeats 4000000 in
theorem sym1_calls {g n c : Nat} {F : Nat → Int} (a m b : Nat) (w : World) (h : SRow w g n c F) (h0 : a + 1 = m) (h1 : m < b) (h2 : b ≤ n) (hd : Desc m b F) :
    Calls Try.prog 98 #[.slice (some ⟨g, 0, none⟩) n c, .int .i64 a, .int .i64 m, .int .i64 b, cmpP] w (Sorted a b g n c F w) := by
  have hc := h.hc
  have hm := h.hm
  have hf := h.hf
  have H := Lib.hid h
  have HD := Lib.hid hd
  have mixed : Try.prog.follows Departure.mixedOrders = true := by kernel_rfl
  have e0 : (m : Int) - (a : Int) = 1 := by omega
  clear h hd
  go_enter Try.func98, Try.ntmps98
  go_wp2
  go_loopw [10, 11] (fun vi vj wr => ∃ i j : Nat, vi = .int .i64 i ∧ vj = .int .i64 j ∧ m ≤ i ∧ i ≤ j ∧ j ≤ b ∧ SRow wr g n c F ∧ Below g w wr ∧ (∀ t, m ≤ t → t < i → F a < F t) ∧ (j < b → F j ≤ F a)) (fun vi vj _ => (intOf vj).toNat - (intOf vi).toNat)
  case atStart => exact ⟨m, b, rfl, rfl, Nat.le_refl _, by omega, Nat.le_refl _, H.out, Below.refl _ _, fun t _ _ => by omega, fun _ => by omega⟩
  case round =>
    obtain ⟨i, j, rfl, rfl, mi, ij, jb, hr, hb, hl, hg⟩ := hrel
    generalize wr = wo at *
    have HR := Lib.hid hr
    have HB := Lib.hid hb
    have HL := Lib.hid hl
    have HG := Lib.hid hg
    clear hr hb hl hg
    by_cases hij : (i : Int) < (j : Int)
    · obtain ⟨p, hp⟩ : ∃ p, (i + j) / 2 = p := ⟨_, rfl⟩
      have e1 : ((i : Int) + (j : Int)) / 2 = (p : Int) := by omega
      have hpj : p < j := by omega
      have hip : i ≤ p := by omega
      have ca := HR.out.r.cell p (by omega)
      have cb := HR.out.r.cell a (by omega)
      have NL := Lib.hid (fun (hl : F a < F p) => fun t (t0 : m ≤ t) (t1 : t < p + 1) => (by have := HD.out t p t0 (by omega) (by omega); omega : F a < F t))
      have NG := Lib.hid (fun (hl : ¬ F a < F p) (_ : p < b) => (by omega : F p ≤ F a))
      generalize hx : F p = x at *
      have HX0 := Lib.hid hx
      clear hx
      obtain ⟨y, hy⟩ : ∃ y, F a = y := ⟨_, rfl⟩
      rw [hy] at cb
      have HY := Lib.hid hy
      have SQ := Lib.hid (fun d => placed1_q x y wo d)
      have bp : (p : Int) < (n : Int) := by omega
      have ba : (a : Int) < (n : Int) := by omega
      clear hp hy
      by_cases hl : y < x
      · have hv : cmpV y x < 0 := cmpV_lt.2 hl
        have NL1 := Lib.hid (NL.out (by rw [HY.out]; exact hl))
        clear NL hl
        generalize cmpV y x = v at *
        go_wp2_with fail
        go_quiet ((go_at_call 83; exact SQ.out _))
        have HR2 := Lib.hid (HR.out.drewN nq)
        have HB2 := Lib.hid (below_dn HB.out nq)
        clear SQ ca cb HR HB
        generalize wo.drewN nq = w2 at *
        go_wp2
        go_roundw
        case rel => exact ⟨p + 1, j, by go_num, rfl, by omega, by omega, jb, HR2.out, HB2.out, NL1.out, HG.out⟩
        case measure => simp [intOf]; omega
      · have hv : ¬ cmpV y x < 0 := fun h => hl (cmpV_lt.1 h)
        have HX := Lib.hid (NG.out (by rw [HY.out]; exact hl))
        clear NL hl
        generalize cmpV y x = v at *
        go_wp2_with fail
        go_quiet ((go_at_call 83; exact SQ.out _))
        have HR2 := Lib.hid (HR.out.drewN nq)
        have HB2 := Lib.hid (below_dn HB.out nq)
        clear SQ ca cb HR HB
        generalize wo.drewN nq = w2 at *
        go_wp2
        go_roundw
        case rel => exact ⟨i, p, rfl, rfl, mi, hip, by omega, HR2.out, HB2.out, HL.out, fun hp => by rw [HX0.out]; exact HX.out hp⟩
        case measure => simp [intOf]; omega
    · obtain rfl : i = j := by omega
      obtain ⟨r, hr⟩ : ∃ r, r + 1 = i := ⟨i - 1, by omega⟩
      have er : (i : Int) - 1 = (r : Int) := by omega
      have FD := Lib.hid (show Mv a b n F (bubF F a r) ∧ Desc a b (bubF F a r) from ⟨Mv.bub F h2 (by omega) (by omega), by
        have := bub_desc (i := i) (by rw [h0]; exact HD.out) (by omega) jb (fun t t0 t1 => HL.out t (by omega) t1) HG.out
        rwa [show i - 1 = r by omega] at this⟩)
      have ST := Lib.hid (fun k (hk : a ≤ k) => bub_succ F hk)
      clear HD HL HG
      go_wp2
      go_loopw [13] (fun vk wr => ∃ k : Nat, vk = .int .i64 k ∧ a ≤ k ∧ k ≤ r ∧ SRow wr g n c (bubF F a k) ∧ Below g w wr) (fun vk _ => r - (intOf vk).toNat)
      case atStart => exact ⟨a, rfl, Nat.le_refl _, by omega, by rw [bub_zero]; exact HR.out, HB.out⟩
      case round =>
        clear HR HB
        obtain ⟨k, rfl, ak, kr, hr, hb⟩ := hrel
        generalize wr = wq at *
        have HR := Lib.hid hr
        have HB := Lib.hid hb
        clear hr hb
        by_cases hk : k < r
        · obtain ⟨q, hq⟩ : ∃ q, k + 1 = q := ⟨_, rfl⟩
          have P := HR.out.pair (i := k) (j := q) (by omega) (by omega)
          rw [← hq, ST.out k ak, hq] at P
          have eq1 : (k : Int) + 1 = (q : Int) := by omega
          generalize bubF F a k k = x at *
          generalize bubF F a k q = y at *
          obtain ⟨ca, cb, fa, fb, ⟨u, cc⟩, nx⟩ := P
          have NX := Lib.hid nx
          have NB := Lib.hid (below_swap HB.out (Nat.le_refl g) k q (.int .i64 y) (.int .i64 x))
          have bq : (q : Int) < (n : Int) := by omega
          have bk : (k : Int) < (n : Int) := by omega
          have hkr : (k : Int) < (r : Int) := by omega
          have rq : IntKind.i64.wrap (q : Int) = (q : Int) := IntWalk.i64_in _ (by omega)
          have rk : IntKind.i64.wrap (k : Int) = (k : Int) := IntWalk.i64_in _ (by omega)
          clear nx
          go_wp2_with fail
          go_big_region_o
          clear ca cb fa fb cc
          generalize ((wq.setCell ⟨g, k, none⟩ (.int .i64 y)).setCell ⟨g, q, none⟩ (.int .i64 x)).drew = w3 at *
          go_wp2
          go_roundw
          case rel => exact ⟨q, by go_num, by omega, by omega, NX.out, NB.out⟩
          case measure => simp [intOf]; try omega
        · obtain rfl : k = r := by omega
          go_wp2
          go_end0
          exact ⟨rfl, _, HR.out, HB.out, FD.out.1, FD.out.2⟩
end Go.Proofs.Ytfhikdgdckfalaa

/- symMergeCmpFunc where the second run has one element. -/
namespace Go.Proofs.Ytfhikdgdckfalaa
open Go.RowKit
set_option linter.unusedVariables false

set_option maxRecDepth 100000 in
set_option maxHeartbeats 4000000 in
theorem sym2_calls {g n c : Nat} {F : Nat → Int} (a m b : Nat) (w : World) (h : SRow w g n c F) (h0 : a + 1 < m) (h1 : m + 1 = b) (h2 : b ≤ n) (hd : Desc a m F) :
    Calls Try.prog 98 #[.slice (some ⟨g, 0, none⟩) n c, .int .i64 a, .int .i64 m, .int .i64 b, cmpP] w (Sorted a b g n c F w) := by
  have hc := h.hc
  have hm := h.hm
  have hf := h.hf
  have H := Lib.hid h
  have HD := Lib.hid hd
  have mixed : Try.prog.follows Departure.mixedOrders = true := by kernel_rfl
  have e0 : ((m : Int) - (a : Int) == 1) = false := by rw [beq_eq_false_iff_ne]; omega
  have e9 : (b : Int) - (m : Int) = 1 := by omega
  clear h hd
  go_enter Try.func98, Try.ntmps98
  go_wp2
  go_loopw [14, 15] (fun vi vj wr => ∃ i j : Nat, vi = .int .i64 i ∧ vj = .int .i64 j ∧ a ≤ i ∧ i ≤ j ∧ j ≤ m ∧ SRow wr g n c F ∧ Below g w wr ∧ (∀ t, a ≤ t → t < i → F m ≤ F t) ∧ (j < m → F j < F m)) (fun vi vj _ => (intOf vj).toNat - (intOf vi).toNat)
  case atStart => exact ⟨a, m, rfl, rfl, Nat.le_refl _, by omega, Nat.le_refl _, H.out, Below.refl _ _, fun t _ _ => by omega, fun _ => by omega⟩
  case round =>
    obtain ⟨i, j, rfl, rfl, mi, ij, jb, hr, hb, hl, hg⟩ := hrel
    generalize wr = wo at *
    have HR := Lib.hid hr
    have HB := Lib.hid hb
    have HL := Lib.hid hl
    have HG := Lib.hid hg
    clear hr hb hl hg
    by_cases hij : (i : Int) < (j : Int)
    · obtain ⟨p, hp⟩ : ∃ p, (i + j) / 2 = p := ⟨_, rfl⟩
      have e1 : ((i : Int) + (j : Int)) / 2 = (p : Int) := by omega
      have hpj : p < j := by omega
      have hip : i ≤ p := by omega
      have ca := HR.out.r.cell p (by omega)
      have cb := HR.out.r.cell m (by omega)
      have NL := Lib.hid (fun (hl : ¬ F p < F m) => fun t (t0 : a ≤ t) (t1 : t < p + 1) => (by have := HD.out t p t0 (by omega) (by omega); omega : F m ≤ F t))
      generalize hx : F p = y at *
      have HX0 := Lib.hid hx
      clear hx
      obtain ⟨x, hy⟩ : ∃ x, F m = x := ⟨_, rfl⟩
      rw [hy] at cb
      have HY := Lib.hid hy
      have SQ := Lib.hid (fun d => placed1_q x y wo d)
      have bp : (p : Int) < (n : Int) := by omega
      have ba : (m : Int) < (n : Int) := by omega
      clear hp hy
      by_cases hl : y < x
      · have hv : cmpV y x < 0 := cmpV_lt.2 hl
        have HX := Lib.hid (show F p < F m by rw [HX0.out, HY.out]; exact hl)
        clear NL hl
        generalize cmpV y x = v at *
        go_wp2_with fail
        go_quiet ((go_at_call 83; exact SQ.out _))
        have HR2 := Lib.hid (HR.out.drewN nq)
        have HB2 := Lib.hid (below_dn HB.out nq)
        clear SQ ca cb HR HB
        generalize wo.drewN nq = w2 at *
        go_wp2
        go_roundw
        case rel => exact ⟨i, p, rfl, rfl, mi, hip, by omega, HR2.out, HB2.out, HL.out, fun _ => HX.out⟩
        case measure => simp [intOf]; omega
      · have hv : ¬ cmpV y x < 0 := fun h => hl (cmpV_lt.1 h)
        have hd1 : decide (cmpV y x < 0) = false := decide_eq_false hv
        have hd2 : (!decide (cmpV y x < 0)) = true := by rw [hd1]; rfl
        have NL1 := Lib.hid (NL.out (by rw [HY.out]; exact hl))
        clear NL hl
        generalize cmpV y x = v at *
        go_wp2_with fail
        go_quiet ((go_at_call 83; exact SQ.out _))
        have HR2 := Lib.hid (HR.out.drewN nq)
        have HB2 := Lib.hid (below_dn HB.out nq)
        clear SQ ca cb HR HB
        generalize wo.drewN nq = w2 at *
        go_wp2
        go_roundw
        case rel => exact ⟨p + 1, j, by go_num, rfl, by omega, by omega, jb, HR2.out, HB2.out, NL1.out, HG.out⟩
        case measure => simp [intOf]; omega
    · obtain rfl : i = j := by omega
      have FD := Lib.hid (show Mv a b n F (bdF F m i) ∧ Desc a b (bdF F m i) from by rw [← h1]; exact ⟨Mv.bd F (by omega) jb mi, bd_desc HD.out mi jb (fun t t0 t1 => HL.out t t0 t1) HG.out⟩)
      have ST := Lib.hid (fun k (hk : k + 1 ≤ m) => bd_succ F hk)
      clear HD HL HG
      go_wp2
      go_loopw [17] (fun vk wr => ∃ k : Nat, vk = .int .i64 k ∧ i ≤ k ∧ k ≤ m ∧ SRow wr g n c (bdF F m k) ∧ Below g w wr) (fun vk _ => (intOf vk).toNat)
      case atStart => exact ⟨m, rfl, jb, Nat.le_refl _, by rw [bd_zero]; exact HR.out, HB.out⟩
      case round =>
        clear HR HB
        obtain ⟨k, rfl, ik, km, hr, hb⟩ := hrel
        generalize wr = wq at *
        have HR := Lib.hid hr
        have HB := Lib.hid hb
        clear hr hb
        by_cases hk : i < k
        · obtain ⟨q, hq⟩ : ∃ q, q + 1 = k := ⟨k - 1, by omega⟩
          have P := HR.out.pair (i := k) (j := q) (by omega) (by omega)
          rw [← hq, ST.out q (by omega), hq] at P
          have eq1 : (k : Int) - 1 = (q : Int) := by omega
          generalize bdF F m k k = x at *
          generalize bdF F m k q = y at *
          obtain ⟨ca, cb, fa, fb, ⟨u, cc⟩, nx⟩ := P
          have NX := Lib.hid nx
          have NB := Lib.hid (below_swap HB.out (Nat.le_refl g) k q (.int .i64 y) (.int .i64 x))
          have bq : (q : Int) < (n : Int) := by omega
          have bk : (k : Int) < (n : Int) := by omega
          have hkr : (i : Int) < (k : Int) := by omega
          have rq : IntKind.i64.wrap (q : Int) = (q : Int) := IntWalk.i64_in _ (by omega)
          have rk : IntKind.i64.wrap (k : Int) = (k : Int) := IntWalk.i64_in _ (by omega)
          clear nx
          go_wp2_with fail
          go_big_region_o
          clear ca cb fa fb cc
          generalize ((wq.setCell ⟨g, k, none⟩ (.int .i64 y)).setCell ⟨g, q, none⟩ (.int .i64 x)).drew = w3 at *
          go_wp2
          go_roundw
          case rel => exact ⟨q, by go_num, by omega, by omega, NX.out, NB.out⟩
          case measure => simp [intOf]; try omega
        · obtain rfl : k = i := by omega
          go_wp2
          go_end0
          exact ⟨rfl, _, HR.out, HB.out, FD.out.1, FD.out.2⟩
end Go.Proofs.Ytfhikdgdckfalaa
