/- The turns of duty and the gaps, as the program and the reference reckon them. The gaps, as the program and the reference reckon them. The gaps, as the reference reckons them. The turns between which the gaps lie, as the program and the reference make them; both functions whole. The turns of the program are those of the reference. The law answers true at all arguments. -/
import Derived.Test.YtlfigfgipnlchaaM1

namespace Go.Lm.Ga
open Go.Proofs Prg
set_option linter.unusedSimpArgs false
set_option maxRecDepth 100000

/-! A number put to its place. -/
def putGo (done : Bool) : List Int → Int → List Int
  | [], n => if done then [] else [n]
  | a :: r, n => if !done && decide (n ≤ a) then (if n < a then n :: a :: putGo true r n else a :: putGo true r n) else a :: putGo done r n
theorem lp_l00Put (o : Bool) (l : List Int) (n : Int) (k : Nat) : ∀ (out : List Int) (done : Bool) (i : Nat), i ≤ l.length → l.length - i = k → out.length + 2 * k < 1048576 → l.length < 1048576 →
    lim C0 (.at_ 16 4) [.sl o 1 (l.map encI), .int .i64 n, .sl true 1 (out.map encI), .bool done, .int .i64 i] = some [.sl true 1 ((out ++ putGo done (l.drop i) n).map encI)] := by
  induction k with
  | zero =>
    intro out done i h hk hb hl
    have h2 : ¬ i < l.length := by omega
    have h3 : l.drop i = [] := List.drop_eq_nil_of_le (by omega)
    have hcap : (out.length + 1) * 8 ≤ 70368744177664 := by omega
    clear hk hb
    cases done
    · refine F16.atS rfl rfl ?_
      repeat' (first | (simp only [go_sem, reduceIte, Nat.reduceEqDiff, Nat.reduceAdd, Nat.reduceSub, Nat.reduceLeDiff, Nat.reduceLT, Nat.reduceMul, Nat.reduceBEq, reduceCtorEq, Int.reduceLT, Int.reduceLE, Int.reduceEq, Int.reduceToNat, Int.reduceAdd, Int.reduceSub, Int.reduceNeg, IntWalk.i64_in, *, h3, putGo, encI, List.map_append]) | (with_reducible refine br_pos ?_ (fun _ => ?_); · omega) | (with_reducible refine br_neg ?_ (fun _ => ?_); · omega) | with_reducible refine br_elim (fun _ => ?_) (fun _ => ?_) | with_reducible refine dr_intro (by kernel_rfl) ?_ | (with_reducible refine nd_intro ?_ ?_; · omega))
    · refine F16.atS rfl rfl ?_
      repeat' (first | (simp only [go_sem, reduceIte, Nat.reduceEqDiff, Nat.reduceAdd, Nat.reduceSub, Nat.reduceLeDiff, Nat.reduceLT, Nat.reduceMul, Nat.reduceBEq, reduceCtorEq, Int.reduceLT, Int.reduceLE, Int.reduceEq, Int.reduceToNat, Int.reduceAdd, Int.reduceSub, Int.reduceNeg, IntWalk.i64_in, *, h3, putGo, encI, List.map_append]) | (with_reducible refine br_pos ?_ (fun _ => ?_); · omega) | (with_reducible refine br_neg ?_ (fun _ => ?_); · omega) | with_reducible refine br_elim (fun _ => ?_) (fun _ => ?_) | with_reducible refine dr_intro (by kernel_rfl) ?_ | (with_reducible refine nd_intro ?_ ?_; · omega))
  | succ k ih =>
    intro out done i h hk hb hl
    have h2 : i < l.length := by omega
    have hw := wrapS (i := i) (by omega)
    have hcap : (out.length + 1) * 8 ≤ 70368744177664 := by omega
    have hcap2 : (out.length + 1 + 1) * 8 ≤ 70368744177664 := by omega
    rw [List.drop_eq_getElem_cons h2, putGo]
    have i1 := ih (out ++ [l[i]]) done (i + 1) (by omega) (by omega) (by rw [List.length_append]; simp; omega) hl
    have i2 := ih (out ++ [l[i]]) true (i + 1) (by omega) (by omega) (by rw [List.length_append]; simp; omega) hl
    have i3 := ih (out ++ [n] ++ [l[i]]) true (i + 1) (by omega) (by omega) (by simp only [List.length_append, List.length_cons, List.length_nil]; omega) hl
    simp only [List.append_assoc, List.cons_append, List.nil_append, List.map_append, List.map_cons, List.map_nil, encI] at i1 i2 i3 ⊢
    clear ih hk hb
    cases done
    · refine F16.atS rfl rfl ?_
      repeat' (first | (simp only [go_sem, reduceIte, Nat.reduceEqDiff, Nat.reduceAdd, Nat.reduceSub, Nat.reduceLeDiff, Nat.reduceLT, Nat.reduceMul, Nat.reduceBEq, reduceCtorEq, Int.reduceLT, Int.reduceLE, Int.reduceEq, Int.reduceToNat, Int.reduceAdd, Int.reduceSub, Int.reduceNeg, IntWalk.i64_in, *, getS h2, encI, List.length_append, List.append_assoc]) | (with_reducible refine br_pos ?_ (fun _ => ?_); · omega) | (with_reducible refine br_neg ?_ (fun _ => ?_); · omega) | with_reducible refine br_elim (fun _ => ?_) (fun _ => ?_) | with_reducible refine dr_intro (by kernel_rfl) ?_ | (with_reducible refine nd_intro ?_ ?_; · omega))
    · refine F16.atS rfl rfl ?_
      repeat' (first | (simp only [go_sem, reduceIte, Nat.reduceEqDiff, Nat.reduceAdd, Nat.reduceSub, Nat.reduceLeDiff, Nat.reduceLT, Nat.reduceMul, Nat.reduceBEq, reduceCtorEq, Int.reduceLT, Int.reduceLE, Int.reduceEq, Int.reduceToNat, Int.reduceAdd, Int.reduceSub, Int.reduceNeg, IntWalk.i64_in, *, getS h2, encI, List.length_append, List.append_assoc]) | (with_reducible refine br_pos ?_ (fun _ => ?_); · omega) | (with_reducible refine br_neg ?_ (fun _ => ?_); · omega) | with_reducible refine br_elim (fun _ => ?_) (fun _ => ?_) | with_reducible refine dr_intro (by kernel_rfl) ?_ | (with_reducible refine nd_intro ?_ ?_; · omega))
theorem ev_l00Put (o : Bool) (l : List Int) (n : Int) (hl : l.length < 262144) :
    lim C0 (.func 16) [.sl o 1 (l.map encI), .int .i64 n] = some [.sl true 1 ((putGo false l n).map encI)] := by
  have h0 := lp_l00Put o l n l.length [] false 0 (by omega) (by omega) (by simp; omega) (by omega)
  simp only [Int.cast_ofNat_Int, List.drop_zero, List.nil_append, List.map_nil] at h0
  refine F16.fnS (xn _ _ (by decide)) rfl rfl ?_
  repeat' (first | (simp only [go_sem, reduceIte, Nat.reduceEqDiff, Nat.reduceAdd, Nat.reduceSub, Nat.reduceLeDiff, Nat.reduceLT, Nat.reduceMul, Nat.reduceBEq, reduceCtorEq, Int.reduceLT, Int.reduceLE, Int.reduceEq, Int.reduceToNat, Int.reduceAdd, Int.reduceSub, Int.reduceNeg, IntWalk.i64_in, *]) | (with_reducible refine br_pos ?_ (fun _ => ?_); · omega) | (with_reducible refine br_neg ?_ (fun _ => ?_); · omega) | with_reducible refine br_elim (fun _ => ?_) (fun _ => ?_) | with_reducible refine dr_intro (by kernel_rfl) ?_ | (with_reducible refine nd_intro ?_ ?_; · omega))

/-! How many are on duty. -/
def onP (t : Int) (d : Duty) : Bool := decide (d.from_ ≤ t) && decide (t < d.until_)
theorem lp_l28On (l : List Duty) (t : Int) (hl : l.length < 1048576) (k : Nat) : ∀ (m : Nat) (i : Nat), i ≤ l.length → l.length - i = k → m + k < 2097152 →
    lim C0 (.at_ 17 3) [.sl false 3 (l.map dutyV), .int .i64 t, .int .i64 m, .int .i64 i] = some [.int .i64 ((m + (l.drop i).countP (onP t) : Nat) : Int)] := by
  induction k with
  | zero =>
    intro m i h hk hb
    have h2 : ¬ i < l.length := by omega
    have h3 : l.drop i = [] := List.drop_eq_nil_of_le (by omega)
    clear hk hb
    refine F17.atS rfl rfl ?_
    repeat' (first | (simp only [go_sem, reduceIte, Nat.reduceEqDiff, Nat.reduceAdd, Nat.reduceSub, Nat.reduceLeDiff, Nat.reduceLT, Nat.reduceMul, Nat.reduceBEq, reduceCtorEq, Int.reduceLT, Int.reduceLE, Int.reduceEq, Int.reduceToNat, Int.reduceAdd, Int.reduceSub, Int.reduceNeg, IntWalk.i64_in, *, h3, List.countP_nil]) | (with_reducible refine br_pos ?_ (fun _ => ?_); · omega) | (with_reducible refine br_neg ?_ (fun _ => ?_); · omega) | with_reducible refine br_elim (fun _ => ?_) (fun _ => ?_) | with_reducible refine dr_intro (by kernel_rfl) ?_ | (with_reducible refine nd_intro ?_ ?_; · omega))
  | succ k ih =>
    intro m i h hk hb
    have h2 : i < l.length := by omega
    have hw := wrapS (i := i) (by omega)
    have hw2 := wrapS (i := m) (by omega)
    rw [List.drop_eq_getElem_cons h2, List.countP_cons]
    have i1 := ih m (i + 1) (by omega) (by omega) (by omega)
    have i2 := ih (m + 1) (i + 1) (by omega) (by omega) (by omega)
    rw [Nat.add_assoc, Nat.add_comm 1] at i2
    clear ih hk hb
    by_cases h5 : l[i].from_ ≤ t
    · by_cases h6 : t < l[i].until_
      · have hp : onP t l[i] = true := by simp [onP, h5, h6]
        refine F17.atS rfl rfl ?_
        repeat' (first | (simp only [go_sem, reduceIte, Nat.reduceEqDiff, Nat.reduceAdd, Nat.reduceSub, Nat.reduceLeDiff, Nat.reduceLT, Nat.reduceMul, Nat.reduceBEq, reduceCtorEq, Int.reduceLT, Int.reduceLE, Int.reduceEq, Int.reduceToNat, Int.reduceAdd, Int.reduceSub, Int.reduceNeg, IntWalk.i64_in, *, getS h2, dutyV]) | (with_reducible refine br_pos ?_ (fun _ => ?_); · omega) | (with_reducible refine br_neg ?_ (fun _ => ?_); · omega) | with_reducible refine br_elim (fun _ => ?_) (fun _ => ?_) | with_reducible refine dr_intro (by kernel_rfl) ?_ | (with_reducible refine nd_intro ?_ ?_; · omega))
      · have hp : onP t l[i] = false := by simp [onP, h6]
        refine F17.atS rfl rfl ?_
        repeat' (first | (simp only [go_sem, reduceIte, Nat.reduceEqDiff, Nat.reduceAdd, Nat.reduceSub, Nat.reduceLeDiff, Nat.reduceLT, Nat.reduceMul, Nat.reduceBEq, reduceCtorEq, Int.reduceLT, Int.reduceLE, Int.reduceEq, Int.reduceToNat, Int.reduceAdd, Int.reduceSub, Int.reduceNeg, IntWalk.i64_in, *, getS h2, dutyV]) | (with_reducible refine br_pos ?_ (fun _ => ?_); · omega) | (with_reducible refine br_neg ?_ (fun _ => ?_); · omega) | with_reducible refine br_elim (fun _ => ?_) (fun _ => ?_) | with_reducible refine dr_intro (by kernel_rfl) ?_ | (with_reducible refine nd_intro ?_ ?_; · omega))
    · have hp : onP t l[i] = false := by simp [onP, h5]
      refine F17.atS rfl rfl ?_
      repeat' (first | (simp only [go_sem, reduceIte, Nat.reduceEqDiff, Nat.reduceAdd, Nat.reduceSub, Nat.reduceLeDiff, Nat.reduceLT, Nat.reduceMul, Nat.reduceBEq, reduceCtorEq, Int.reduceLT, Int.reduceLE, Int.reduceEq, Int.reduceToNat, Int.reduceAdd, Int.reduceSub, Int.reduceNeg, IntWalk.i64_in, *, getS h2, dutyV]) | (with_reducible refine br_pos ?_ (fun _ => ?_); · omega) | (with_reducible refine br_neg ?_ (fun _ => ?_); · omega) | with_reducible refine br_elim (fun _ => ?_) (fun _ => ?_) | with_reducible refine dr_intro (by kernel_rfl) ?_ | (with_reducible refine nd_intro ?_ ?_; · omega))
theorem ev_l28On (l : List Duty) (t : Int) (hl : l.length < 1048576) : lim C0 (.func 17) [.sl false 3 (l.map dutyV), .int .i64 t] = some [.int .i64 ((l.countP (onP t) : Nat) : Int)] := by
  have h0 := lp_l28On l t hl l.length 0 0 (by omega) (by omega) (by omega)
  simp only [Int.cast_ofNat_Int, List.drop_zero, Nat.zero_add] at h0
  refine F17.fnS (xn _ _ (by decide)) rfl rfl ?_
  repeat' (first | (simp only [go_sem, reduceIte, Nat.reduceEqDiff, Nat.reduceAdd, Nat.reduceSub, Nat.reduceLeDiff, Nat.reduceLT, Nat.reduceMul, Nat.reduceBEq, reduceCtorEq, Int.reduceLT, Int.reduceLE, Int.reduceEq, Int.reduceToNat, Int.reduceAdd, Int.reduceSub, Int.reduceNeg, IntWalk.i64_in, *]) | (with_reducible refine br_pos ?_ (fun _ => ?_); · omega) | (with_reducible refine br_neg ?_ (fun _ => ?_); · omega) | with_reducible refine br_elim (fun _ => ?_) (fun _ => ?_) | with_reducible refine dr_intro (by kernel_rfl) ?_ | (with_reducible refine nd_intro ?_ ?_; · omega))
theorem encS_bs (l : List UInt8) : encS l = .str (bs l) := rfl
theorem lp_onDuty (l : List Duty) (t : Int) (hl : l.length < 1048576) (hv : ∀ d ∈ l, 0 ≤ d.until_ ∧ d.until_ ≤ 143999999) (k : Nat) : ∀ (out : List (List UInt8)) (i : Nat), i ≤ l.length → l.length - i = k → out.length + k < 2097152 →
    ∃ ls : List (List UInt8), ls.length = out.length + (l.drop i).countP (onP t) ∧
    lim C0 (.at_ 23 3) [.int .i64 t, .sl true 1 (out.map encS), .sl false 3 (l.map dutyV), .int .i64 l.length, .int .i64 i] = some [.sl true 1 (ls.map encS)] := by
  induction k with
  | zero =>
    intro out i h hk hb
    have h2 : ¬ i < l.length := by omega
    have h3 : l.drop i = [] := List.drop_eq_nil_of_le (by omega)
    have hs := ev_sortS out (by omega)
    refine ⟨out.mergeSort fun x y => decide (x ≤ y), by rw [List.length_mergeSort, h3]; simp, ?_⟩
    clear hk hb
    refine F23.atS rfl rfl ?_
    repeat' (first | (simp only [go_sem, reduceIte, Nat.reduceEqDiff, Nat.reduceAdd, Nat.reduceSub, Nat.reduceLeDiff, Nat.reduceLT, Nat.reduceMul, Nat.reduceBEq, reduceCtorEq, Int.reduceLT, Int.reduceLE, Int.reduceEq, Int.reduceToNat, Int.reduceAdd, Int.reduceSub, Int.reduceNeg, IntWalk.i64_in, *]) | (with_reducible refine br_pos ?_ (fun _ => ?_); · omega) | (with_reducible refine br_neg ?_ (fun _ => ?_); · omega) | with_reducible refine br_elim (fun _ => ?_) (fun _ => ?_) | with_reducible refine dr_intro (by kernel_rfl) ?_ | (with_reducible refine nd_intro ?_ ?_; · omega))
  | succ k ih =>
    intro out i h hk hb
    have h2 : i < l.length := by omega
    have hw := wrapS (i := i) (by omega)
    rw [List.drop_eq_getElem_cons h2, List.countP_cons]
    obtain ⟨hv1, hv2⟩ := hv _ (List.getElem_mem h2)
    have hw2 : IntKind.i64.wrap (l[i].until_ - 1) = l[i].until_ - 1 := IntWalk.i64_in _ ⟨by omega, by omega⟩
    have hcap : (out.length + 1) * 16 ≤ 70368744177664 := by omega
    by_cases h5 : l[i].from_ ≤ t
    · by_cases h6 : t < l[i].until_
      · have hp : onP t l[i] = true := by simp [onP, h5, h6]
        have h7 : t ≤ l[i].until_ - 1 := by omega
        obtain ⟨ls, hls, i1⟩ := ih (out ++ [l[i].keeper]) (i + 1) (by omega) (by omega) (by rw [List.length_append]; simp; omega)
        refine ⟨ls, by rw [hls, hp, List.length_append]; simp; omega, ?_⟩
        simp only [List.map_append, List.map_cons, List.map_nil, encS_bs] at i1
        clear ih hk hb hv hls
        refine F23.atS rfl rfl ?_
        repeat' (first | (simp only [go_sem, reduceIte, Nat.reduceEqDiff, Nat.reduceAdd, Nat.reduceSub, Nat.reduceLeDiff, Nat.reduceLT, Nat.reduceMul, Nat.reduceBEq, reduceCtorEq, Int.reduceLT, Int.reduceLE, Int.reduceEq, Int.reduceToNat, Int.reduceAdd, Int.reduceSub, Int.reduceNeg, IntWalk.i64_in, *, getS h2, dutyV]) | (with_reducible refine br_pos ?_ (fun _ => ?_); · omega) | (with_reducible refine br_neg ?_ (fun _ => ?_); · omega) | with_reducible refine br_elim (fun _ => ?_) (fun _ => ?_) | with_reducible refine dr_intro (by kernel_rfl) ?_ | (with_reducible refine nd_intro ?_ ?_; · omega))
      · have hp : onP t l[i] = false := by simp [onP, h6]
        have h7 : ¬ t ≤ l[i].until_ - 1 := by omega
        obtain ⟨ls, hls, i1⟩ := ih out (i + 1) (by omega) (by omega) (by omega)
        refine ⟨ls, by rw [hls, hp]; simp, ?_⟩
        clear ih hk hb hv hls
        refine F23.atS rfl rfl ?_
        repeat' (first | (simp only [go_sem, reduceIte, Nat.reduceEqDiff, Nat.reduceAdd, Nat.reduceSub, Nat.reduceLeDiff, Nat.reduceLT, Nat.reduceMul, Nat.reduceBEq, reduceCtorEq, Int.reduceLT, Int.reduceLE, Int.reduceEq, Int.reduceToNat, Int.reduceAdd, Int.reduceSub, Int.reduceNeg, IntWalk.i64_in, *, getS h2, dutyV]) | (with_reducible refine br_pos ?_ (fun _ => ?_); · omega) | (with_reducible refine br_neg ?_ (fun _ => ?_); · omega) | with_reducible refine br_elim (fun _ => ?_) (fun _ => ?_) | with_reducible refine dr_intro (by kernel_rfl) ?_ | (with_reducible refine nd_intro ?_ ?_; · omega))
    · have hp : onP t l[i] = false := by simp [onP, h5]
      obtain ⟨ls, hls, i1⟩ := ih out (i + 1) (by omega) (by omega) (by omega)
      refine ⟨ls, by rw [hls, hp]; simp, ?_⟩
      clear ih hk hb hv hls
      refine F23.atS rfl rfl ?_
      repeat' (first | (simp only [go_sem, reduceIte, Nat.reduceEqDiff, Nat.reduceAdd, Nat.reduceSub, Nat.reduceLeDiff, Nat.reduceLT, Nat.reduceMul, Nat.reduceBEq, reduceCtorEq, Int.reduceLT, Int.reduceLE, Int.reduceEq, Int.reduceToNat, Int.reduceAdd, Int.reduceSub, Int.reduceNeg, IntWalk.i64_in, *, getS h2, dutyV]) | (with_reducible refine br_pos ?_ (fun _ => ?_); · omega) | (with_reducible refine br_neg ?_ (fun _ => ?_); · omega) | with_reducible refine br_elim (fun _ => ?_) (fun _ => ?_) | with_reducible refine dr_intro (by kernel_rfl) ?_ | (with_reducible refine nd_intro ?_ ?_; · omega))
theorem ev_onDuty (l : List Duty) (t : Int) (hl : l.length < 1048576) (hv : ∀ d ∈ l, 0 ≤ d.until_ ∧ d.until_ ≤ 143999999) : ∃ ls : List (List UInt8), ls.length = l.countP (onP t) ∧
    lim C0 (.func 23) [.sl false 3 (l.map dutyV), .int .i64 t] = some [.sl true 1 (ls.map encS)] := by
  obtain ⟨ls, hls, h0⟩ := lp_onDuty l t hl hv l.length [] 0 (by omega) (by omega) (by simp; omega)
  simp only [Int.cast_ofNat_Int, List.map_nil] at h0
  refine ⟨ls, by simpa using hls, ?_⟩
  refine F23.fnS (xn _ _ (by decide)) rfl rfl ?_
  repeat' (first | (simp only [go_sem, reduceIte, Nat.reduceEqDiff, Nat.reduceAdd, Nat.reduceSub, Nat.reduceLeDiff, Nat.reduceLT, Nat.reduceMul, Nat.reduceBEq, reduceCtorEq, Int.reduceLT, Int.reduceLE, Int.reduceEq, Int.reduceToNat, Int.reduceAdd, Int.reduceSub, Int.reduceNeg, IntWalk.i64_in, *]) | (with_reducible refine br_pos ?_ (fun _ => ?_); · omega) | (with_reducible refine br_neg ?_ (fun _ => ?_); · omega) | with_reducible refine br_elim (fun _ => ?_) (fun _ => ?_) | with_reducible refine dr_intro (by kernel_rfl) ?_ | (with_reducible refine nd_intro ?_ ?_; · omega))
end Go.Lm.Ga

namespace Go.Lm.Ga
open Go.Proofs Prg
set_option linter.unusedSimpArgs false
set_option maxRecDepth 100000
set_option maxHeartbeats 1000000
attribute [local irreducible] IntKind.wrap

def pairV (p : Int × Int) : V := .sl true 1 [.int .i64 p.1, .int .i64 p.2]
def gapStep (c : Int → Bool) (out : List (Int × Int)) (a b : Int) : List (Int × Int) :=
  if c a then out else match out.getLast? with
    | some g => if g.2 = a then out.dropLast ++ [(g.1, b)] else out ++ [(a, b)]
    | none => out ++ [(a, b)]
def gapGo (c : Int → Bool) : List (Int × Int) → List Int → List (Int × Int)
  | out, a :: b :: r => gapGo c (gapStep c out a b) (b :: r)
  | out, _ => out
def manned (l : List Duty) (need : Int) (a : Int) : Bool := decide (need ≤ (l.countP (onP a) : Int))
theorem deepI : ∀ l : List Int, V.deep.deepL (l.map encI) = true
  | [] => rfl
  | a :: l => by simp only [List.map_cons, encI, V.deep.deepL, V.deep, deepI l, Bool.true_and]
theorem deepP : ∀ l : List (Int × Int), V.deep.deepL (l.map pairV) = true
  | [] => rfl
  | a :: l => by simp [pairV, V.deep.deepL, V.deep, deepP l]
theorem gapGo_drop {c : Int → Bool} {out : List (Int × Int)} {ts : List Int} {i : Nat} (h : i + 1 < ts.length) :
    gapGo c out (ts.drop i) = gapGo c (gapStep c out ts[i] ts[i + 1]) (ts.drop (i + 1)) := by
  rw [List.drop_eq_getElem_cons (by omega : i < ts.length), List.drop_eq_getElem_cons h, gapGo]
theorem gapGo_end {c : Int → Bool} {out : List (Int × Int)} {ts : List Int} {i : Nat} (h : ¬ i + 1 < ts.length) : gapGo c out (ts.drop i) = out := by
  have : (ts.drop i).length ≤ 1 := by rw [List.length_drop]; omega
  match ts.drop i, this with
  | [], _ => rfl
  | [_], _ => rfl

theorem lp_gapsI (l : List Duty) (need : Int) (hl : l.length < 1048576) (hv : ∀ d ∈ l, 0 ≤ d.until_ ∧ d.until_ ≤ 143999999) (ts : List Int) (hts : ts.length < 1048576) (k : Nat) :
    ∀ (out : List (Int × Int)) (i : Nat), i + 1 ≤ ts.length → ts.length - (i + 1) = k → out.length + k < 1048576 →
    lim C0 (.at_ 7 16) [.sl false 3 (l.map dutyV), .int .i64 need, .sl true 1 (ts.map encI), .sl true 1 (out.map pairV), .int .i64 ((i + 1 : Nat) : Int)] =
      some [.sl true 1 ((gapGo (manned l need) out (ts.drop i)).map pairV), .int .i64 0] := by
  induction k with
  | zero =>
    intro out i h hk hb
    have h2 : ¬ i + 1 < ts.length := by omega
    rw [gapGo_end h2]
    clear hk hb
    refine F7.atS rfl rfl ?_
    repeat' (first | (simp only [go_sem, reduceIte, Nat.reduceEqDiff, Nat.reduceAdd, Nat.reduceSub, Nat.reduceLeDiff, Nat.reduceLT, Nat.reduceMul, Nat.reduceBEq, reduceCtorEq, Int.reduceLT, Int.reduceLE, Int.reduceEq, Int.reduceToNat, Int.reduceAdd, Int.reduceSub, Int.reduceNeg, IntWalk.i64_in, *]) | (with_reducible refine br_pos ?_ (fun _ => ?_); · omega) | (with_reducible refine br_neg ?_ (fun _ => ?_); · omega) | with_reducible refine br_elim (fun _ => ?_) (fun _ => ?_) | with_reducible refine dr_intro (by kernel_rfl) ?_ | (with_reducible refine nd_intro ?_ ?_; · omega))
  | succ k ih =>
    intro out i h hk hb
    have h2 : i + 1 < ts.length := by omega
    have h3 : i < ts.length := by omega
    have hw := wrapS (i := i + 1) (by omega)
    have hwp : IntKind.i64.wrap (((i + 1 : Nat) : Int) - 1) = (i : Int) := by rw [IntWalk.i64_in _ ⟨by omega, by omega⟩]; omega
    rw [gapGo_drop h2]
    obtain ⟨ls, hls, hd⟩ := ev_onDuty l ts[i] hl hv
    have hcap : (out.length + 1) * 24 ≤ 70368744177664 := by omega
    by_cases hm : need ≤ (l.countP (onP ts[i]) : Int)
    · have hs : gapStep (manned l need) out ts[i] ts[i + 1] = out := by simp only [gapStep, manned, hm, decide_true, if_true]
      rw [hs]
      have i1 := ih out (i + 1) (by omega) (by omega) (by omega)
      rw [← hls] at hm
      clear ih hk hb hv hls hs
      refine F7.atS rfl rfl ?_
      repeat' (first | (simp only [go_sem, reduceIte, Nat.reduceEqDiff, Nat.reduceAdd, Nat.reduceSub, Nat.reduceLeDiff, Nat.reduceLT, Nat.reduceMul, Nat.reduceBEq, reduceCtorEq, Int.reduceLT, Int.reduceLE, Int.reduceEq, Int.reduceToNat, Int.reduceAdd, Int.reduceSub, Int.reduceNeg, IntWalk.i64_in, *, getS h2, getS h3, encI]) | (with_reducible refine br_pos ?_ (fun _ => ?_); · omega) | (with_reducible refine br_neg ?_ (fun _ => ?_); · omega) | with_reducible refine br_elim (fun _ => ?_) (fun _ => ?_) | with_reducible refine dr_intro (by kernel_rfl) ?_ | (with_reducible refine nd_intro ?_ ?_; · omega))
    · have hmf : manned l need ts[i] = false := by simp only [manned, hm, decide_false]
      rcases List.eq_nil_or_concat out with rfl | ⟨pre, g, rfl⟩
      · have hs : gapStep (manned l need) [] ts[i] ts[i + 1] = [(ts[i], ts[i + 1])] := by simp [gapStep, hmf]
        rw [hs]
        have i1 := ih [(ts[i], ts[i + 1])] (i + 1) (by omega) (by omega) (by simp at hb ⊢; omega)
        simp only [List.map_cons, List.map_nil, pairV] at i1
        rw [← hls] at hm
        clear ih hk hb hv hls hs hmf
        refine F7.atS rfl rfl ?_
        repeat' (first | (simp only [go_sem, reduceIte, Nat.reduceEqDiff, Nat.reduceAdd, Nat.reduceSub, Nat.reduceLeDiff, Nat.reduceLT, Nat.reduceMul, Nat.reduceBEq, reduceCtorEq, Int.reduceLT, Int.reduceLE, Int.reduceEq, Int.reduceToNat, Int.reduceAdd, Int.reduceSub, Int.reduceNeg, IntWalk.i64_in, *, getS h2, getS h3, encI]) | (with_reducible refine br_pos ?_ (fun _ => ?_); · omega) | (with_reducible refine br_neg ?_ (fun _ => ?_); · omega) | with_reducible refine br_elim (fun _ => ?_) (fun _ => ?_) | with_reducible refine dr_intro (by kernel_rfl) ?_ | (with_reducible refine nd_intro ?_ ?_; · omega))
      · have hln : (pre.concat g).length = pre.length + 1 := by simp
        have hwq : IntKind.i64.wrap (((pre.length + 1 : Nat) : Int) - 1) = (pre.length : Int) := by rw [IntWalk.i64_in _ ⟨by omega, by omega⟩]; omega
        rw [List.concat_eq_append] at hb hcap hln ⊢
        have hget : (pre ++ [g])[pre.length]? = some g := by rw [List.getElem?_append_right (by omega)]; simp
        have hlt : pre.length < pre.length + 1 := by omega
        have hz : 0 < pre.length + 1 := by omega
        rw [hln] at hcap
        by_cases hg : g.2 = ts[i]
        · have hs : gapStep (manned l need) (pre ++ [g]) ts[i] ts[i + 1] = pre ++ [(g.1, ts[i + 1])] := by simp [gapStep, hmf, hg]
          rw [hs]
          have hset : ((pre ++ [g]).map pairV).set pre.length (pairV (g.1, ts[i + 1])) = (pre ++ [(g.1, ts[i + 1])]).map pairV := by
            rw [← List.map_set, List.set_append_right _ _ (by omega)]; simp
          simp only [pairV] at hset
          have i1 := ih (pre ++ [(g.1, ts[i + 1])]) (i + 1) (by omega) (by omega) (by simp at hb ⊢; omega)
          rw [← hls] at hm
          clear ih hk hb hv hls hs hmf
          refine F7.atS rfl rfl ?_
          repeat' (first | (simp only [go_sem, reduceIte, Nat.reduceEqDiff, Nat.reduceAdd, Nat.reduceSub, Nat.reduceLeDiff, Nat.reduceLT, Nat.reduceMul, Nat.reduceBEq, reduceCtorEq, Int.reduceLT, Int.reduceLE, Int.reduceEq, Int.reduceToNat, Int.reduceAdd, Int.reduceSub, Int.reduceNeg, IntWalk.i64_in, *, getS h2, getS h3, encI, pairV]) | (with_reducible refine br_pos ?_ (fun _ => ?_); · omega) | (with_reducible refine br_neg ?_ (fun _ => ?_); · omega) | with_reducible refine br_elim (fun _ => ?_) (fun _ => ?_) | with_reducible refine dr_intro (by kernel_rfl) ?_ | (with_reducible refine nd_intro ?_ ?_; · omega))
        · have hs : gapStep (manned l need) (pre ++ [g]) ts[i] ts[i + 1] = pre ++ [g] ++ [(ts[i], ts[i + 1])] := by simp [gapStep, hmf, hg]
          rw [hs]
          have i1 := ih (pre ++ [g] ++ [(ts[i], ts[i + 1])]) (i + 1) (by omega) (by omega) (by simp at hb ⊢; omega)
          rw [List.map_append] at i1
          simp only [List.map_cons, List.map_nil, pairV] at i1
          rw [← hls] at hm
          clear ih hk hb hv hls hs hmf
          refine F7.atS rfl rfl ?_
          repeat' (first | (simp only [go_sem, reduceIte, Nat.reduceEqDiff, Nat.reduceAdd, Nat.reduceSub, Nat.reduceLeDiff, Nat.reduceLT, Nat.reduceMul, Nat.reduceBEq, reduceCtorEq, Int.reduceLT, Int.reduceLE, Int.reduceEq, Int.reduceToNat, Int.reduceAdd, Int.reduceSub, Int.reduceNeg, IntWalk.i64_in, *, getS h2, getS h3, encI, pairV]) | (with_reducible refine br_pos ?_ (fun _ => ?_); · omega) | (with_reducible refine br_neg ?_ (fun _ => ?_); · omega) | with_reducible refine br_elim (fun _ => ?_) (fun _ => ?_) | with_reducible refine dr_intro (by kernel_rfl) ?_ | (with_reducible refine nd_intro ?_ ?_; · omega))
end Go.Lm.Ga

namespace Go.Lm.Ga
open Go.Proofs Prg
set_option linter.unusedSimpArgs false
set_option maxRecDepth 100000
set_option maxHeartbeats 1000000
attribute [local irreducible] IntKind.wrap

theorem lp_gapsS (l : List Duty) (need : Int) (hl : l.length < 1048576) (ts : List Int) (hts : ts.length < 1048576) (k : Nat) :
    ∀ (out : List (Int × Int)) (i : Nat), i + 1 ≤ ts.length → ts.length - (i + 1) = k → out.length + k < 1048576 →
    lim C0 (.at_ 5 16) [.sl false 3 (l.map dutyV), .int .i64 need, .sl true 1 (ts.map encI), .sl true 1 (out.map pairV), .int .i64 i] =
      some [.sl true 1 ((gapGo (manned l need) out (ts.drop i)).map pairV), .int .i64 0] := by
  induction k with
  | zero =>
    intro out i h hk hb
    have h2 : ¬ i + 1 < ts.length := by omega
    have hw := wrapS (i := i) (by omega)
    rw [gapGo_end h2]
    clear hk hb
    refine F5.atS rfl rfl ?_
    repeat' (first | (simp only [go_sem, reduceIte, Nat.reduceEqDiff, Nat.reduceAdd, Nat.reduceSub, Nat.reduceLeDiff, Nat.reduceLT, Nat.reduceMul, Nat.reduceBEq, reduceCtorEq, Int.reduceLT, Int.reduceLE, Int.reduceEq, Int.reduceToNat, Int.reduceAdd, Int.reduceSub, Int.reduceNeg, IntWalk.i64_in, *]) | (with_reducible refine br_pos ?_ (fun _ => ?_); · omega) | (with_reducible refine br_neg ?_ (fun _ => ?_); · omega) | with_reducible refine br_elim (fun _ => ?_) (fun _ => ?_) | with_reducible refine dr_intro (by kernel_rfl) ?_ | (with_reducible refine nd_intro ?_ ?_; · omega))
  | succ k ih =>
    intro out i h hk hb
    have h2 : i + 1 < ts.length := by omega
    have h3 : i < ts.length := by omega
    have hw := wrapS (i := i) (by omega)
    rw [gapGo_drop h2]
    have hd := ev_l28On l ts[i] hl
    generalize hcn : l.countP (onP ts[i]) = cn at hd
    have hcap : (out.length + 1) * 24 ≤ 70368744177664 := by omega
    by_cases hm : need ≤ (cn : Int)
    · have hs : gapStep (manned l need) out ts[i] ts[i + 1] = out := by simp only [gapStep, manned, hcn, hm, decide_true, if_true]
      rw [hs]
      have i1 := ih out (i + 1) (by omega) (by omega) (by omega)
      clear ih hk hb hcn hs
      refine F5.atS rfl rfl ?_
      repeat' (first | (simp only [go_sem, reduceIte, Nat.reduceEqDiff, Nat.reduceAdd, Nat.reduceSub, Nat.reduceLeDiff, Nat.reduceLT, Nat.reduceMul, Nat.reduceBEq, reduceCtorEq, Int.reduceLT, Int.reduceLE, Int.reduceEq, Int.reduceToNat, Int.reduceAdd, Int.reduceSub, Int.reduceNeg, IntWalk.i64_in, *, getS h2, getS h3, encI]) | (with_reducible refine br_pos ?_ (fun _ => ?_); · omega) | (with_reducible refine br_neg ?_ (fun _ => ?_); · omega) | with_reducible refine br_elim (fun _ => ?_) (fun _ => ?_) | with_reducible refine dr_intro (by kernel_rfl) ?_ | (with_reducible refine nd_intro ?_ ?_; · omega))
    · have hmf : manned l need ts[i] = false := by simp only [manned, hcn, hm, decide_false]
      rcases List.eq_nil_or_concat out with rfl | ⟨pre, g, rfl⟩
      · have hs : gapStep (manned l need) [] ts[i] ts[i + 1] = [(ts[i], ts[i + 1])] := by simp [gapStep, hmf]
        rw [hs]
        have i1 := ih [(ts[i], ts[i + 1])] (i + 1) (by omega) (by omega) (by simp at hb ⊢; omega)
        simp only [List.map_cons, List.map_nil, pairV] at i1
        clear ih hk hb hcn hs hmf
        refine F5.atS rfl rfl ?_
        repeat' (first | (simp only [go_sem, reduceIte, Nat.reduceEqDiff, Nat.reduceAdd, Nat.reduceSub, Nat.reduceLeDiff, Nat.reduceLT, Nat.reduceMul, Nat.reduceBEq, reduceCtorEq, Int.reduceLT, Int.reduceLE, Int.reduceEq, Int.reduceToNat, Int.reduceAdd, Int.reduceSub, Int.reduceNeg, IntWalk.i64_in, *, getS h2, getS h3, encI]) | (with_reducible refine br_pos ?_ (fun _ => ?_); · omega) | (with_reducible refine br_neg ?_ (fun _ => ?_); · omega) | with_reducible refine br_elim (fun _ => ?_) (fun _ => ?_) | with_reducible refine dr_intro (by kernel_rfl) ?_ | (with_reducible refine nd_intro ?_ ?_; · omega))
      · have hln : (pre.concat g).length = pre.length + 1 := by simp
        have hwq : IntKind.i64.wrap (((pre.length + 1 : Nat) : Int) - 1) = (pre.length : Int) := by rw [IntWalk.i64_in _ ⟨by omega, by omega⟩]; omega
        rw [List.concat_eq_append] at hb hcap hln ⊢
        have hget : (pre ++ [g])[pre.length]? = some g := by rw [List.getElem?_append_right (by omega)]; simp
        have hlt : pre.length < pre.length + 1 := by omega
        have hz : 0 < pre.length + 1 := by omega
        rw [hln] at hcap
        by_cases hg : g.2 = ts[i]
        · have hs : gapStep (manned l need) (pre ++ [g]) ts[i] ts[i + 1] = pre ++ [(g.1, ts[i + 1])] := by simp [gapStep, hmf, hg]
          rw [hs]
          have hset : ((pre ++ [g]).map pairV).set pre.length (pairV (g.1, ts[i + 1])) = (pre ++ [(g.1, ts[i + 1])]).map pairV := by
            rw [← List.map_set, List.set_append_right _ _ (by omega)]; simp
          simp only [pairV] at hset
          have i1 := ih (pre ++ [(g.1, ts[i + 1])]) (i + 1) (by omega) (by omega) (by simp at hb ⊢; omega)
          clear ih hk hb hcn hs hmf
          refine F5.atS rfl rfl ?_
          repeat' (first | (simp only [go_sem, reduceIte, Nat.reduceEqDiff, Nat.reduceAdd, Nat.reduceSub, Nat.reduceLeDiff, Nat.reduceLT, Nat.reduceMul, Nat.reduceBEq, reduceCtorEq, Int.reduceLT, Int.reduceLE, Int.reduceEq, Int.reduceToNat, Int.reduceAdd, Int.reduceSub, Int.reduceNeg, IntWalk.i64_in, *, getS h2, getS h3, encI, pairV]) | (with_reducible refine br_pos ?_ (fun _ => ?_); · omega) | (with_reducible refine br_neg ?_ (fun _ => ?_); · omega) | with_reducible refine br_elim (fun _ => ?_) (fun _ => ?_) | with_reducible refine dr_intro (by kernel_rfl) ?_ | (with_reducible refine nd_intro ?_ ?_; · omega))
        · have hs : gapStep (manned l need) (pre ++ [g]) ts[i] ts[i + 1] = pre ++ [g] ++ [(ts[i], ts[i + 1])] := by simp [gapStep, hmf, hg]
          rw [hs]
          have i1 := ih (pre ++ [g] ++ [(ts[i], ts[i + 1])]) (i + 1) (by omega) (by omega) (by simp at hb ⊢; omega)
          rw [List.map_append] at i1
          simp only [List.map_cons, List.map_nil, pairV] at i1
          clear ih hk hb hcn hs hmf
          refine F5.atS rfl rfl ?_
          repeat' (first | (simp only [go_sem, reduceIte, Nat.reduceEqDiff, Nat.reduceAdd, Nat.reduceSub, Nat.reduceLeDiff, Nat.reduceLT, Nat.reduceMul, Nat.reduceBEq, reduceCtorEq, Int.reduceLT, Int.reduceLE, Int.reduceEq, Int.reduceToNat, Int.reduceAdd, Int.reduceSub, Int.reduceNeg, IntWalk.i64_in, *, getS h2, getS h3, encI, pairV]) | (with_reducible refine br_pos ?_ (fun _ => ?_); · omega) | (with_reducible refine br_neg ?_ (fun _ => ?_); · omega) | with_reducible refine br_elim (fun _ => ?_) (fun _ => ?_) | with_reducible refine dr_intro (by kernel_rfl) ?_ | (with_reducible refine nd_intro ?_ ?_; · omega))
end Go.Lm.Ga

namespace Go.Lm.Ga
open Go.Proofs Prg
set_option linter.unusedSimpArgs false
set_option maxRecDepth 100000
set_option maxHeartbeats 1000000
attribute [local irreducible] IntKind.wrap

def clamps (a b : Int) (l : List Duty) : List Int := l.flatMap fun d => [min b (max a d.from_), min b (max a d.until_)]
theorem clamps_cons (a b : Int) (d : Duty) (l : List Duty) : clamps a b (d :: l) = min b (max a d.from_) :: min b (max a d.until_) :: clamps a b l := by simp [clamps]
theorem clamps_length (a b : Int) : ∀ l, (clamps a b l).length = 2 * l.length
  | [] => rfl
  | d :: l => by rw [clamps_cons]; simp only [List.length_cons, clamps_length a b l]; omega
def sortT (l : List Int) : List Int := Lib.compact (l.mergeSort fun x y => decide (x ≤ y))
theorem compact_len (zs : List Int) : (Lib.compact zs).length ≤ zs.length := by
  unfold Lib.compact Lib.compactUpTo
  rw [List.length_map]
  exact Nat.le_trans (List.length_filter_le _ _) (by simp)
theorem compact_ne {zs : List Int} (h : zs ≠ []) : 0 < (Lib.compact zs).length := by
  unfold Lib.compact Lib.compactUpTo
  rw [List.length_map]
  have h0 : 0 < zs.length := List.length_pos_iff.2 h
  have : 0 ∈ (List.range zs.length).filter (Lib.keeps zs.toArray) := by
    rw [List.mem_filter]; exact ⟨List.mem_range.2 h0, by simp [Lib.keeps]⟩
  exact List.length_pos_of_mem this

theorem lp_turnsI (l : List Duty) (a b need : Int) (hl : l.length < 131072) (hv : ∀ d ∈ l, 0 ≤ d.until_ ∧ d.until_ ≤ 143999999) (k : Nat) :
    ∀ (ts : List Int) (i : Nat), i ≤ l.length → l.length - i = k → 0 < ts.length → ts.length + 2 * k < 524288 →
    lim C0 (.at_ 7 8) [.sl false 3 (l.map dutyV), .int .i64 a, .int .i64 b, .int .i64 need, .sl true 1 (ts.map encI), .sl false 3 (l.map dutyV), .int .i64 l.length, .int .i64 i] =
      some [.sl true 1 ((gapGo (manned l need) [] (sortT (ts ++ clamps a b (l.drop i)))).map pairV), .int .i64 0] := by
  induction k with
  | zero =>
    intro ts i h hk h0 hb
    have h2 : ¬ i < l.length := by omega
    have h3 : l.drop i = [] := List.drop_eq_nil_of_le (by omega)
    have h4 : ts ++ clamps a b (l.drop i) = ts := by rw [h3]; simp [clamps]
    rw [h4]
    have hs := ev_sortI ts (by omega)
    have hml : (ts.mergeSort fun x y => decide (x ≤ y)).length = ts.length := List.length_mergeSort _
    have hne : (ts.mergeSort fun x y => decide (x ≤ y)) ≠ [] := by intro e; rw [e] at hml; simp at hml; omega
    have hc := ev_compactI (ts.mergeSort fun x y => decide (x ≤ y)) hne (by omega)
    have hcl := compact_len (ts.mergeSort fun x y => decide (x ≤ y))
    have hcn := compact_ne hne
    have hg := lp_gapsI l need (by omega) hv (sortT ts) (by unfold sortT; omega) ((sortT ts).length - 1) [] 0 (by unfold sortT; omega) (by omega) (by unfold sortT; simp; omega)
    have hst : Lib.compact (ts.mergeSort fun x y => decide (x ≤ y)) = sortT ts := rfl
    rw [hst] at hc
    simp only [List.map_nil, List.drop_zero, Nat.zero_add, Int.cast_ofNat_Int] at hg
    clear hk h3 h4 hml hne hcl hcn hst hv
    refine F7.atS rfl rfl ?_
    repeat' (first | (simp only [go_sem, reduceIte, Nat.reduceEqDiff, Nat.reduceAdd, Nat.reduceSub, Nat.reduceLeDiff, Nat.reduceLT, Nat.reduceMul, Nat.reduceBEq, reduceCtorEq, Int.reduceLT, Int.reduceLE, Int.reduceEq, Int.reduceToNat, Int.reduceAdd, Int.reduceSub, Int.reduceNeg, IntWalk.i64_in, *]) | (with_reducible refine br_pos ?_ (fun _ => ?_); · omega) | (with_reducible refine br_neg ?_ (fun _ => ?_); · omega) | with_reducible refine br_elim (fun _ => ?_) (fun _ => ?_) | with_reducible refine dr_intro (by kernel_rfl) ?_ | (with_reducible refine nd_intro ?_ ?_; · omega))
  | succ k ih =>
    intro ts i h hk h0 hb
    have h2 : i < l.length := by omega
    have hw := wrapS (i := i) (by omega)
    rw [List.drop_eq_getElem_cons h2, clamps_cons]
    have hcap : (ts.length + (1 + 1)) * 8 ≤ 70368744177664 := by omega
    have i1 := ih (ts ++ [min b (max a l[i].from_), min b (max a l[i].until_)]) (i + 1) (by omega) (by omega) (by simp) (by simp; omega)
    simp only [List.map_append, List.map_cons, List.map_nil, encI, List.append_assoc, List.cons_append, List.nil_append] at i1
    clear ih hk hb hv
    refine F7.atS rfl rfl ?_
    repeat' (first | (simp only [go_sem, reduceIte, Nat.reduceEqDiff, Nat.reduceAdd, Nat.reduceSub, Nat.reduceLeDiff, Nat.reduceLT, Nat.reduceMul, Nat.reduceBEq, reduceCtorEq, Int.reduceLT, Int.reduceLE, Int.reduceEq, Int.reduceToNat, Int.reduceAdd, Int.reduceSub, Int.reduceNeg, IntWalk.i64_in, *, getS h2, dutyV]) | (with_reducible refine br_pos ?_ (fun _ => ?_); · omega) | (with_reducible refine br_neg ?_ (fun _ => ?_); · omega) | with_reducible refine br_elim (fun _ => ?_) (fun _ => ?_) | with_reducible refine dr_intro (by kernel_rfl) ?_ | (with_reducible refine nd_intro ?_ ?_; · omega))
def gapsI (l : List Duty) (a b need : Int) : List (Int × Int) := gapGo (manned l need) [] (sortT ([a, b] ++ clamps a b l))
def gapsC (l : List Duty) (a b need : Int) : Int := if betweenC l a b = 0 then (if 1 ≤ need ∧ need ≤ 10 then 0 else 2) else betweenC l a b
theorem betweenC_0 {l : List Duty} {a b : Int} (h : betweenC l a b = 0) : valid l = true ∧ a ≤ b := by
  unfold betweenC at h
  split at h
  · rename_i h1
    split at h
    · rename_i h2
      simp only [Bool.and_eq_true, decide_eq_true_eq] at h2
      exact ⟨h1, h2.2⟩
    · omega
  · omega
theorem validGo_ok : ∀ (l pre : List Duty), validGo pre l = true → ∀ d ∈ l, dutyOk d = true
  | [], _, _ => by simp
  | d :: r, pre, h => by
    rw [validGo_cons] at h
    simp only [Bool.and_eq_true] at h
    intro e he
    rcases List.mem_cons.1 he with rfl | he
    · exact h.1.1.1
    · exact validGo_ok r _ h.2 e he
theorem valid_ok {l : List Duty} (h : valid l = true) : (∀ d ∈ l, 0 ≤ d.from_ ∧ d.from_ ≤ 143999999 ∧ 0 ≤ d.until_ ∧ d.until_ ≤ 143999999) ∧ l.length ≤ 60 := by
  unfold valid at h
  simp only [Bool.and_eq_true, decide_eq_true_eq] at h
  refine ⟨fun d hd => ?_, h.2⟩
  have := validGo_ok l [] h.1 d hd
  simp only [dutyOk, timeOk, Bool.and_eq_true, decide_eq_true_eq] at this
  omega
theorem ev_WatchGapsI (l : List Duty) (hl : l.length < 4611686018427387904) (hk : ∀ d ∈ l, d.keeper.length < 4611686018427387904) (a b need : Int) :
    lim C0 (.func 7) [.sl false 3 (l.map dutyV), .int .i64 a, .int .i64 b, .int .i64 need] =
      some [.sl true 1 ((if gapsC l a b need = 0 then gapsI l a b need else []).map pairV), .int .i64 (gapsC l a b need)] := by
  have hc := ev_betweenCode l hl hk a b
  by_cases h0 : betweenC l a b = 0
  · obtain ⟨hv, hab⟩ := betweenC_0 h0
    obtain ⟨hv1, hv2⟩ := valid_ok hv
    have ht := lp_turnsI l a b need (by omega) (fun d hd => ⟨(hv1 d hd).2.2.1, (hv1 d hd).2.2.2⟩) l.length [a, b] 0 (by omega) (by omega) (by simp) (by simp; omega)
    rw [h0] at hc
    simp only [Int.cast_ofNat_Int, List.drop_zero, List.map_cons, List.map_nil, encI] at ht
    by_cases hn1 : 1 ≤ need
    · by_cases hn2 : need ≤ 10
      · have hg : gapsC l a b need = 0 := by simp [gapsC, h0, hn1, hn2]
        rw [hg, if_pos rfl, gapsI]
        clear hk hv hv1 h0
        refine F7.fnS (xn _ _ (by decide)) rfl rfl ?_
        repeat' (first | (simp only [go_sem, reduceIte, Nat.reduceEqDiff, Nat.reduceAdd, Nat.reduceSub, Nat.reduceLeDiff, Nat.reduceLT, Nat.reduceMul, Nat.reduceBEq, reduceCtorEq, Int.reduceLT, Int.reduceLE, Int.reduceEq, Int.reduceToNat, Int.reduceAdd, Int.reduceSub, Int.reduceNeg, IntWalk.i64_in, *]) | (with_reducible refine br_pos ?_ (fun _ => ?_); · omega) | (with_reducible refine br_neg ?_ (fun _ => ?_); · omega) | with_reducible refine br_elim (fun _ => ?_) (fun _ => ?_) | with_reducible refine dr_intro (by kernel_rfl) ?_ | (with_reducible refine nd_intro ?_ ?_; · omega))
      · have hg : gapsC l a b need = 2 := by simp [gapsC, h0, hn2]
        rw [hg, if_neg (by omega)]
        clear hk hv hv1 h0 ht
        refine F7.fnS (xn _ _ (by decide)) rfl rfl ?_
        repeat' (first | (simp only [go_sem, reduceIte, Nat.reduceEqDiff, Nat.reduceAdd, Nat.reduceSub, Nat.reduceLeDiff, Nat.reduceLT, Nat.reduceMul, Nat.reduceBEq, reduceCtorEq, Int.reduceLT, Int.reduceLE, Int.reduceEq, Int.reduceToNat, Int.reduceAdd, Int.reduceSub, Int.reduceNeg, IntWalk.i64_in, *]) | (with_reducible refine br_pos ?_ (fun _ => ?_); · omega) | (with_reducible refine br_neg ?_ (fun _ => ?_); · omega) | with_reducible refine br_elim (fun _ => ?_) (fun _ => ?_) | with_reducible refine dr_intro (by kernel_rfl) ?_ | (with_reducible refine nd_intro ?_ ?_; · omega))
    · have hg : gapsC l a b need = 2 := by simp [gapsC, h0, hn1]
      rw [hg, if_neg (by omega)]
      clear hk hv hv1 h0 ht
      refine F7.fnS (xn _ _ (by decide)) rfl rfl ?_
      repeat' (first | (simp only [go_sem, reduceIte, Nat.reduceEqDiff, Nat.reduceAdd, Nat.reduceSub, Nat.reduceLeDiff, Nat.reduceLT, Nat.reduceMul, Nat.reduceBEq, reduceCtorEq, Int.reduceLT, Int.reduceLE, Int.reduceEq, Int.reduceToNat, Int.reduceAdd, Int.reduceSub, Int.reduceNeg, IntWalk.i64_in, *]) | (with_reducible refine br_pos ?_ (fun _ => ?_); · omega) | (with_reducible refine br_neg ?_ (fun _ => ?_); · omega) | with_reducible refine br_elim (fun _ => ?_) (fun _ => ?_) | with_reducible refine dr_intro (by kernel_rfl) ?_ | (with_reducible refine nd_intro ?_ ?_; · omega))
  · have hg : gapsC l a b need = betweenC l a b := by simp [gapsC, h0]
    rw [hg, if_neg h0]
    clear hk
    refine F7.fnS (xn _ _ (by decide)) rfl rfl ?_
    repeat' (first | (simp only [go_sem, reduceIte, Nat.reduceEqDiff, Nat.reduceAdd, Nat.reduceSub, Nat.reduceLeDiff, Nat.reduceLT, Nat.reduceMul, Nat.reduceBEq, reduceCtorEq, Int.reduceLT, Int.reduceLE, Int.reduceEq, Int.reduceToNat, Int.reduceAdd, Int.reduceSub, Int.reduceNeg, IntWalk.i64_in, *]) | (with_reducible refine br_pos ?_ (fun _ => ?_); · omega) | (with_reducible refine br_neg ?_ (fun _ => ?_); · omega) | with_reducible refine br_elim (fun _ => ?_) (fun _ => ?_) | with_reducible refine dr_intro (by kernel_rfl) ?_ | (with_reducible refine nd_intro ?_ ?_; · omega))

/-! The reference. -/
def inR (a b x : Int) : Bool := decide (a ≤ x) && decide (x ≤ b)
def putD (a b : Int) (ts : List Int) (d : Duty) : List Int :=
  let t1 := if inR a b d.from_ then putGo false ts d.from_ else ts
  if inR a b d.until_ then putGo false t1 d.until_ else t1
theorem putGo_len : ∀ (l : List Int) (n : Int) (o : Bool), (putGo o l n).length ≤ l.length + 1 ∧ l.length ≤ (putGo o l n).length
  | [], n, o => by cases o <;> simp [putGo]
  | a :: r, n, o => by
    have h1 := putGo_len r n true
    have h2 := putGo_len r n o
    have h3 : (putGo true r n).length = r.length := by
      clear h1 h2
      induction r with
      | nil => rfl
      | cons x r ih => simp only [putGo, Bool.not_true, Bool.false_and, Bool.false_eq_true, if_false, List.length_cons, ih]
    unfold putGo
    split
    · split <;> simp only [List.length_cons] <;> omega
    · simp only [List.length_cons]; omega
theorem putD_len (a b : Int) (ts : List Int) (d : Duty) : (putD a b ts d).length ≤ ts.length + 2 ∧ ts.length ≤ (putD a b ts d).length := by
  unfold putD
  have h1 := putGo_len ts d.from_ false
  have h2 := putGo_len ts d.until_ false
  have h3 := putGo_len (putGo false ts d.from_) d.until_ false
  by_cases hf : inR a b d.from_ = true <;> by_cases hu : inR a b d.until_ = true <;> simp only [hf, hu, if_true, if_false, Bool.false_eq_true] <;> omega
theorem lp_turnsS (l : List Duty) (a b need : Int) (hl : l.length < 65536) (k : Nat) :
    ∀ (ts : List Int) (i : Nat), i ≤ l.length → l.length - i = k → 0 < ts.length → ts.length + 2 * k < 262000 →
    lim C0 (.at_ 5 8) [.sl false 3 (l.map dutyV), .int .i64 a, .int .i64 b, .int .i64 need, .sl true 1 (ts.map encI), .int .i64 i] =
      some [.sl true 1 ((gapGo (manned l need) [] ((l.drop i).foldl (putD a b) ts)).map pairV), .int .i64 0] := by
  induction k with
  | zero =>
    intro ts i h hk h0 hb
    have h2 : ¬ i < l.length := by omega
    have h3 : l.drop i = [] := List.drop_eq_nil_of_le (by omega)
    have hg := lp_gapsS l need (by omega) ts (by omega) (ts.length - 1) [] 0 (by omega) (by omega) (by simp; omega)
    simp only [List.map_nil, List.drop_zero, Int.cast_ofNat_Int] at hg
    clear hk
    refine F5.atS rfl rfl ?_
    repeat' (first | (simp only [go_sem, reduceIte, Nat.reduceEqDiff, Nat.reduceAdd, Nat.reduceSub, Nat.reduceLeDiff, Nat.reduceLT, Nat.reduceMul, Nat.reduceBEq, reduceCtorEq, Int.reduceLT, Int.reduceLE, Int.reduceEq, Int.reduceToNat, Int.reduceAdd, Int.reduceSub, Int.reduceNeg, IntWalk.i64_in, *, h3, List.foldl_nil]) | (with_reducible refine br_pos ?_ (fun _ => ?_); · omega) | (with_reducible refine br_neg ?_ (fun _ => ?_); · omega) | with_reducible refine br_elim (fun _ => ?_) (fun _ => ?_) | with_reducible refine dr_intro (by kernel_rfl) ?_ | (with_reducible refine nd_intro ?_ ?_; · omega))
  | succ k ih =>
    intro ts i h hk h0 hb
    have h2 : i < l.length := by omega
    have hw := wrapS (i := i) (by omega)
    rw [List.drop_eq_getElem_cons h2, List.foldl_cons]
    have hpl := putD_len a b ts l[i]
    have i1 := ih (putD a b ts l[i]) (i + 1) (by omega) (by omega) (by omega) (by omega)
    have g1 := putGo_len ts l[i].from_ false
    have p1 := ev_l00Put false ts l[i].from_ (by omega)
    have p2 := ev_l00Put false ts l[i].until_ (by omega)
    have p3 := ev_l00Put false (putGo false ts l[i].from_) l[i].until_ (by omega)
    have d1 := deepI (putGo false ts l[i].from_)
    have d2 := deepI (putGo false ts l[i].until_)
    have d3 := deepI (putGo false (putGo false ts l[i].from_) l[i].until_)
    have fz : ∀ q : List Int, V.freezeL (q.map encI) = q.map encI := by
      intro q; rw [V.freezeL_eq, List.map_map]; rfl
    unfold putD at i1 ⊢
    unfold inR at i1 ⊢
    clear ih hk hb hpl
    by_cases c1 : a ≤ l[i].from_ <;> by_cases c2 : l[i].from_ ≤ b <;> by_cases c3 : a ≤ l[i].until_ <;> by_cases c4 : l[i].until_ ≤ b
    all_goals
      simp only [c1, c2, c3, c4, decide_true, decide_false, Bool.and_self, Bool.and_true, Bool.and_false, Bool.true_and, Bool.false_and, if_true, if_false, Bool.false_eq_true] at i1 ⊢
      refine F5.atS rfl rfl ?_
      repeat' (first | (simp only [go_sem, reduceIte, Nat.reduceEqDiff, Nat.reduceAdd, Nat.reduceSub, Nat.reduceLeDiff, Nat.reduceLT, Nat.reduceMul, Nat.reduceBEq, reduceCtorEq, Int.reduceLT, Int.reduceLE, Int.reduceEq, Int.reduceToNat, Int.reduceAdd, Int.reduceSub, Int.reduceNeg, IntWalk.i64_in, *, getS h2, dutyV]) | (with_reducible refine br_pos ?_ (fun _ => ?_); · omega) | (with_reducible refine br_neg ?_ (fun _ => ?_); · omega) | with_reducible refine br_elim (fun _ => ?_) (fun _ => ?_) | with_reducible refine dr_intro (by kernel_rfl) ?_ | (with_reducible refine nd_intro ?_ ?_; · omega))
def gapsS (l : List Duty) (a b need : Int) : List (Int × Int) := gapGo (manned l need) [] (l.foldl (putD a b) (putGo false [a] b))
theorem ev_WatchGapsS (l : List Duty) (hl : l.length < 4611686018427387904) (hk : ∀ d ∈ l, d.keeper.length < 4611686018427387904) (a b need : Int) :
    lim C0 (.func 5) [.sl false 3 (l.map dutyV), .int .i64 a, .int .i64 b, .int .i64 need] =
      some [.sl true 1 ((if gapsC l a b need = 0 then gapsS l a b need else []).map pairV), .int .i64 (gapsC l a b need)] := by
  have hc := ev_l28Span l hl hk a b
  by_cases h0 : betweenC l a b = 0
  · obtain ⟨hv, hab⟩ := betweenC_0 h0
    obtain ⟨hv1, hv2⟩ := valid_ok hv
    have hpl := putGo_len [a] b false
    have hp := ev_l00Put false [a] b (by simp)
    have d1 := deepI (putGo false [a] b)
    have ht := lp_turnsS l a b need (by omega) l.length (putGo false [a] b) 0 (by omega) (by omega) (by simp at hpl; omega) (by simp at hpl; omega)
    rw [h0] at hc
    simp only [Int.cast_ofNat_Int, List.drop_zero] at ht
    simp only [List.map_cons, List.map_nil, encI] at hp
    by_cases hn1 : 1 ≤ need
    · by_cases hn2 : need ≤ 10
      · have hg : gapsC l a b need = 0 := by simp [gapsC, h0, hn1, hn2]
        rw [hg, if_pos rfl, gapsS]
        clear hk hv hv1 h0 hpl
        refine F5.fnS (xn _ _ (by decide)) rfl rfl ?_
        repeat' (first | (simp only [go_sem, reduceIte, Nat.reduceEqDiff, Nat.reduceAdd, Nat.reduceSub, Nat.reduceLeDiff, Nat.reduceLT, Nat.reduceMul, Nat.reduceBEq, reduceCtorEq, Int.reduceLT, Int.reduceLE, Int.reduceEq, Int.reduceToNat, Int.reduceAdd, Int.reduceSub, Int.reduceNeg, IntWalk.i64_in, *]) | (with_reducible refine br_pos ?_ (fun _ => ?_); · omega) | (with_reducible refine br_neg ?_ (fun _ => ?_); · omega) | with_reducible refine br_elim (fun _ => ?_) (fun _ => ?_) | with_reducible refine dr_intro (by kernel_rfl) ?_ | (with_reducible refine nd_intro ?_ ?_; · omega))
      · have hg : gapsC l a b need = 2 := by simp [gapsC, h0, hn2]
        rw [hg, if_neg (by omega)]
        clear hk hv hv1 h0 ht hp d1 hpl
        refine F5.fnS (xn _ _ (by decide)) rfl rfl ?_
        repeat' (first | (simp only [go_sem, reduceIte, Nat.reduceEqDiff, Nat.reduceAdd, Nat.reduceSub, Nat.reduceLeDiff, Nat.reduceLT, Nat.reduceMul, Nat.reduceBEq, reduceCtorEq, Int.reduceLT, Int.reduceLE, Int.reduceEq, Int.reduceToNat, Int.reduceAdd, Int.reduceSub, Int.reduceNeg, IntWalk.i64_in, *]) | (with_reducible refine br_pos ?_ (fun _ => ?_); · omega) | (with_reducible refine br_neg ?_ (fun _ => ?_); · omega) | with_reducible refine br_elim (fun _ => ?_) (fun _ => ?_) | with_reducible refine dr_intro (by kernel_rfl) ?_ | (with_reducible refine nd_intro ?_ ?_; · omega))
    · have hg : gapsC l a b need = 2 := by simp [gapsC, h0, hn1]
      rw [hg, if_neg (by omega)]
      clear hk hv hv1 h0 ht hp d1 hpl
      refine F5.fnS (xn _ _ (by decide)) rfl rfl ?_
      repeat' (first | (simp only [go_sem, reduceIte, Nat.reduceEqDiff, Nat.reduceAdd, Nat.reduceSub, Nat.reduceLeDiff, Nat.reduceLT, Nat.reduceMul, Nat.reduceBEq, reduceCtorEq, Int.reduceLT, Int.reduceLE, Int.reduceEq, Int.reduceToNat, Int.reduceAdd, Int.reduceSub, Int.reduceNeg, IntWalk.i64_in, *]) | (with_reducible refine br_pos ?_ (fun _ => ?_); · omega) | (with_reducible refine br_neg ?_ (fun _ => ?_); · omega) | with_reducible refine br_elim (fun _ => ?_) (fun _ => ?_) | with_reducible refine dr_intro (by kernel_rfl) ?_ | (with_reducible refine nd_intro ?_ ?_; · omega))
  · have hg : gapsC l a b need = betweenC l a b := by simp [gapsC, h0]
    rw [hg, if_neg h0]
    clear hk
    refine F5.fnS (xn _ _ (by decide)) rfl rfl ?_
    repeat' (first | (simp only [go_sem, reduceIte, Nat.reduceEqDiff, Nat.reduceAdd, Nat.reduceSub, Nat.reduceLeDiff, Nat.reduceLT, Nat.reduceMul, Nat.reduceBEq, reduceCtorEq, Int.reduceLT, Int.reduceLE, Int.reduceEq, Int.reduceToNat, Int.reduceAdd, Int.reduceSub, Int.reduceNeg, IntWalk.i64_in, *]) | (with_reducible refine br_pos ?_ (fun _ => ?_); · omega) | (with_reducible refine br_neg ?_ (fun _ => ?_); · omega) | with_reducible refine br_elim (fun _ => ?_) (fun _ => ?_) | with_reducible refine dr_intro (by kernel_rfl) ?_ | (with_reducible refine nd_intro ?_ ?_; · omega))
end Go.Lm.Ga

namespace Go.Lm.Ga
open Go.Proofs

theorem strict_ext : ∀ (l1 l2 : List Int), l1.Pairwise (· < ·) → l2.Pairwise (· < ·) → (∀ x, x ∈ l1 ↔ x ∈ l2) → l1 = l2
  | [], [], _, _, _ => rfl
  | [], b :: l2, _, _, h => by have := (h b).2 (by simp); simp at this
  | a :: l1, [], _, _, h => by have := (h a).1 (by simp); simp at this
  | a :: l1, b :: l2, h1, h2, h => by
    rw [List.pairwise_cons] at h1 h2
    have hab : a = b := by
      rcases List.mem_cons.1 ((h a).1 (by simp)) with h3 | h3
      · exact h3
      · rcases List.mem_cons.1 ((h b).2 (by simp)) with h4 | h4
        · exact h4.symm
        · have := h1.1 b h4; have := h2.1 a h3; omega
    subst hab
    congr 1
    refine strict_ext l1 l2 h1.2 h2.2 fun x => ?_
    constructor
    · intro hx
      rcases List.mem_cons.1 ((h x).1 (by simp [hx])) with h3 | h3
      · have := h1.1 x hx; omega
      · exact h3
    · intro hx
      rcases List.mem_cons.1 ((h x).2 (by simp [hx])) with h3 | h3
      · have := h2.1 x hx; omega
      · exact h3

theorem putGo_true (n : Int) : ∀ l, putGo true l n = l
  | [] => rfl
  | a :: l => by simp [putGo, putGo_true n l]
theorem mem_putGo (n x : Int) : ∀ l, x ∈ putGo false l n ↔ x = n ∨ x ∈ l
  | [] => by simp [putGo]
  | a :: l => by
    unfold putGo
    simp only [Bool.not_false, Bool.true_and, decide_eq_true_eq, putGo_true]
    split
    · split
      · simp
      · have : a = n := by omega
        subst this; simp
    · rw [List.mem_cons, mem_putGo n x l, List.mem_cons]
      constructor
      · rintro (h | h | h) <;> simp [h]
      · rintro (h | h | h) <;> simp [h]
theorem strict_putGo (n : Int) : ∀ l : List Int, l.Pairwise (· < ·) → (putGo false l n).Pairwise (· < ·)
  | [], _ => by simp [putGo]
  | a :: l, h => by
    rw [List.pairwise_cons] at h
    unfold putGo
    simp only [Bool.not_false, Bool.true_and, decide_eq_true_eq, putGo_true]
    split
    · split
      · refine List.pairwise_cons.2 ⟨fun x hx => ?_, List.pairwise_cons.2 h⟩
        rcases List.mem_cons.1 hx with rfl | hx
        · assumption
        · have := h.1 x hx; omega
      · exact List.pairwise_cons.2 h
    · refine List.pairwise_cons.2 ⟨fun x hx => ?_, strict_putGo n l h.2⟩
      rcases (mem_putGo n x l).1 hx with rfl | hx
      · omega
      · exact h.1 x hx
theorem strict_putD (a b : Int) (ts : List Int) (d : Duty) (h : ts.Pairwise (· < ·)) : (putD a b ts d).Pairwise (· < ·) := by
  unfold putD
  have h1 := strict_putGo d.from_ ts h
  split <;> split <;> first | exact strict_putGo _ _ ‹_› | assumption
theorem mem_putD (a b x : Int) (ts : List Int) (d : Duty) : x ∈ putD a b ts d ↔ x ∈ ts ∨ (x = d.from_ ∧ a ≤ x ∧ x ≤ b) ∨ (x = d.until_ ∧ a ≤ x ∧ x ≤ b) := by
  unfold putD inR
  simp only [Bool.and_eq_true, decide_eq_true_eq]
  by_cases h1 : a ≤ d.from_ ∧ d.from_ ≤ b <;> by_cases h2 : a ≤ d.until_ ∧ d.until_ ≤ b <;> simp only [h1, h2, and_self, if_true, if_false, mem_putGo] <;> grind
theorem strict_fold (a b : Int) : ∀ (l : List Duty) (ts : List Int), ts.Pairwise (· < ·) → (l.foldl (putD a b) ts).Pairwise (· < ·)
  | [], _, h => h
  | d :: l, ts, h => strict_fold a b l _ (strict_putD a b ts d h)
theorem mem_fold (a b x : Int) : ∀ (l : List Duty) (ts : List Int), x ∈ l.foldl (putD a b) ts ↔ x ∈ ts ∨ ∃ d ∈ l, (x = d.from_ ∨ x = d.until_) ∧ a ≤ x ∧ x ≤ b
  | [], ts => by simp
  | d :: l, ts => by
    rw [List.foldl_cons, mem_fold a b x l, mem_putD]
    constructor
    · rintro ((h | ⟨h, h2⟩ | ⟨h, h2⟩) | ⟨e, he, h⟩)
      · exact .inl h
      · exact .inr ⟨d, by simp, .inl h, h2⟩
      · exact .inr ⟨d, by simp, .inr h, h2⟩
      · exact .inr ⟨e, by simp [he], h⟩
    · rintro (h | ⟨e, he, h1, h2⟩)
      · exact .inl (.inl h)
      · rcases List.mem_cons.1 he with rfl | he
        · rcases h1 with h1 | h1
          · exact .inl (.inr (.inl ⟨h1, h2⟩))
          · exact .inl (.inr (.inr ⟨h1, h2⟩))
        · exact .inr ⟨e, he, h1, h2⟩

theorem get_bang {zs : List Int} {i : Nat} (h : i < zs.length) : zs.toArray[i]! = zs[i] := by
  rw [getElem!_pos zs.toArray i (by simpa using h)]; simp
theorem mem_compact (zs : List Int) (hs : zs.Pairwise (· ≤ ·)) (x : Int) : x ∈ Lib.compact zs ↔ x ∈ zs := by
  unfold Lib.compact Lib.compactUpTo
  constructor
  · intro h
    obtain ⟨i, hi, rfl⟩ := List.mem_map.1 h
    have hlt : i < zs.length := List.mem_range.1 (List.mem_filter.1 hi).1
    rw [get_bang hlt]; exact List.getElem_mem hlt
  · intro h
    obtain ⟨j, hj, rfl⟩ := List.getElem_of_mem h
    have key : ∀ n j (hj : j < zs.length), j = n → ∃ i, i < zs.length ∧ zs.toArray[i]! = zs[j] ∧ Lib.keeps zs.toArray i = true := by
      intro n
      induction n with
      | zero => intro j hj hn; subst hn; exact ⟨0, hj, get_bang hj, by simp [Lib.keeps]⟩
      | succ n ih =>
        intro j hj hn
        subst hn
        by_cases he : zs[n + 1] = zs[n]
        · obtain ⟨i, h1, h2, h3⟩ := ih n (by omega) rfl
          exact ⟨i, h1, by rw [h2, he], h3⟩
        · refine ⟨n + 1, hj, get_bang hj, ?_⟩
          have e2 : zs.toArray[n + 1 - 1]! = zs[n] := get_bang (by omega)
          simp only [Lib.keeps, decide_eq_true_eq]
          right
          rw [get_bang hj, e2]; exact he
    obtain ⟨i, h1, h2, h3⟩ := key j j hj rfl
    exact List.mem_map.2 ⟨i, List.mem_filter.2 ⟨List.mem_range.2 h1, h3⟩, h2⟩
theorem strict_compact (zs : List Int) (hs : zs.Pairwise (· ≤ ·)) : (Lib.compact zs).Pairwise (· < ·) := by
  unfold Lib.compact Lib.compactUpTo
  rw [List.pairwise_map]
  have hr : (List.range zs.length).Pairwise (· < ·) := List.pairwise_lt_range
  refine (List.Pairwise.filter _ hr).imp_of_mem ?_
  intro i j hi hj hij
  obtain ⟨hi1, hi2⟩ := List.mem_filter.1 hi
  obtain ⟨hj1, hj2⟩ := List.mem_filter.1 hj
  have hil := List.mem_range.1 hi1
  have hjl := List.mem_range.1 hj1
  simp only [Lib.keeps, decide_eq_true_eq] at hj2
  have hle := List.pairwise_iff_getElem.1 hs
  rcases hj2 with h | h
  · omega
  · rw [get_bang hjl, get_bang (by omega : j - 1 < zs.length)] at h
    rw [get_bang hil, get_bang hjl]
    have h1 := hle (j - 1) j (by omega) hjl (by omega)
    rcases Nat.lt_or_eq_of_le (by omega : i ≤ j - 1) with h2 | h2
    · have h3 := hle i (j - 1) hil (by omega) h2
      omega
    · subst h2; omega
theorem sortT_strict (l : List Int) : (sortT l).Pairwise (· < ·) := by
  refine strict_compact _ ?_
  have := List.pairwise_mergeSort (le := fun x y : Int => decide (x ≤ y)) (by intro a b c; simp; omega) (by intro a b; simp; omega) l
  exact this.imp (by intro a b h; simpa using h)
theorem mem_sortT (l : List Int) (x : Int) : x ∈ sortT l ↔ x ∈ l := by
  unfold sortT
  rw [mem_compact]
  · exact (List.mergeSort_perm l _).mem_iff
  · have := List.pairwise_mergeSort (le := fun x y : Int => decide (x ≤ y)) (by intro a b c; simp; omega) (by intro a b; simp; omega) l
    exact this.imp (by intro a b h; simpa using h)
theorem mem_clamps (a b x : Int) (l : List Duty) : x ∈ clamps a b l ↔ ∃ d ∈ l, x = min b (max a d.from_) ∨ x = min b (max a d.until_) := by
  unfold clamps; simp
theorem turns_eq (l : List Duty) {a b : Int} (h : a ≤ b) : sortT ([a, b] ++ clamps a b l) = l.foldl (putD a b) (putGo false [a] b) := by
  refine strict_ext _ _ (sortT_strict _) (strict_fold a b l _ (strict_putGo b [a] (by simp))) fun x => ?_
  rw [mem_sortT, mem_fold, mem_putGo, List.mem_append, mem_clamps]
  constructor
  · rintro (h1 | ⟨d, hd, h1 | h1⟩)
    · simp at h1; rcases h1 with h1 | h1 <;> simp [h1]
    · by_cases h2 : d.from_ < a
      · left; right; simp; omega
      · by_cases h3 : b < d.from_
        · left; left; omega
        · right; exact ⟨d, hd, .inl (by omega), by omega, by omega⟩
    · by_cases h2 : d.until_ < a
      · left; right; simp; omega
      · by_cases h3 : b < d.until_
        · left; left; omega
        · right; exact ⟨d, hd, .inr (by omega), by omega, by omega⟩
  · rintro ((h1 | h1) | ⟨d, hd, h1 | h1, h2, h3⟩)
    · left; simp [h1]
    · left; simp at h1; simp [h1]
    · right; exact ⟨d, hd, .inl (by omega)⟩
    · right; exact ⟨d, hd, .inr (by omega)⟩
theorem gaps_eq (l : List Duty) {a b need : Int} (h : gapsC l a b need = 0) : gapsS l a b need = gapsI l a b need := by
  have h0 : betweenC l a b = 0 := by
    unfold gapsC at h
    split at h
    · assumption
    · exact h
  unfold gapsS gapsI
  rw [turns_eq l (betweenC_0 h0).2]
end Go.Lm.Ga

namespace Go.Lm.Ga
open Go.Proofs Prg
set_option linter.unusedSimpArgs false
set_option maxRecDepth 100000
set_option maxHeartbeats 2000000
attribute [local irreducible] IntKind.wrap

def LL (G : List (Int × Int)) : List (List Int) := G.map fun p => [p.1, p.2]
theorem pairs_LL (G : List (Int × Int)) : G.map pairV = (LL G).map (intsV true) := by
  unfold LL; rw [List.map_map]; rfl
theorem fzI (ls : List (List Int)) : V.freezeL (ls.map (intsV true)) = ls.map (intsV false) := by
  rw [V.freezeL_eq, List.map_map]
  congr 1; funext l
  simp only [Function.comp_apply, intsV, V.freeze, V.freezeL_eq, List.map_map]
  rfl
theorem fzD (l : List Duty) : V.freezeL (l.map dutyV) = l.map dutyV := by
  rw [V.freezeL_eq, List.map_map]; rfl
theorem deepLL (ls : List (List Int)) : V.deep.deepL (ls.map (intsV true)) = true := by
  induction ls with
  | nil => rfl
  | cons l ls ih => simp only [List.map_cons, intsV, V.deep.deepL, V.deep, deepI l, ih, Bool.and_true, Bool.or_true]
theorem sumLL (G : List (Int × Int)) : sumLen (LL G) = 2 * G.length := by
  induction G with
  | nil => rfl
  | cons p G ih => show sumLen ([p.1, p.2] :: LL G) = _; simp only [sumLen, ih, List.length_cons, List.length_nil]; omega
theorem gapStep_len (c : Int → Bool) (out : List (Int × Int)) (a b : Int) : (gapStep c out a b).length ≤ out.length + 1 := by
  unfold gapStep
  split
  · omega
  · split
    · split
      · simp
      · simp
    · simp
theorem gapGo_len (c : Int → Bool) : ∀ (ts : List Int) (out : List (Int × Int)), (gapGo c out ts).length ≤ out.length + ts.length
  | [], out => by simp [gapGo]
  | [_], out => by simp [gapGo]
  | a :: b :: r, out => by
    rw [gapGo]
    have h1 := gapGo_len c (b :: r) (gapStep c out a b)
    have h2 := gapStep_len c out a b
    simp only [List.length_cons] at h1 ⊢; omega

theorem law_true (l : List Duty) (hl : l.length < 4611686018427387904) (hk : ∀ d ∈ l, d.keeper.length < 4611686018427387904) (a b need : Int) :
    lim C0 (.func 3) [.sl false 3 (l.map dutyV), .int .i64 a, .int .i64 b, .int .i64 need] = some [.bool true] := by
  have hz := ev_szDutyS l hl hk
  by_cases hs : szS l 1048576 < 0
  · clear hk
    refine F3.fnS (xn _ _ (by decide)) rfl rfl ?_
    repeat' (first | (simp only [go_sem, reduceIte, Nat.reduceEqDiff, Nat.reduceAdd, Nat.reduceSub, Nat.reduceLeDiff, Nat.reduceLT, Nat.reduceMul, Nat.reduceBEq, reduceCtorEq, Int.reduceLT, Int.reduceLE, Int.reduceEq, Int.reduceToNat, Int.reduceAdd, Int.reduceSub, Int.reduceNeg, IntWalk.i64_in, *]) | (with_reducible refine br_pos ?_ (fun _ => ?_); · omega) | (with_reducible refine br_neg ?_ (fun _ => ?_); · omega) | with_reducible refine br_elim (fun _ => ?_) (fun _ => ?_) | with_reducible refine dr_intro (by kernel_rfl) ?_ | (with_reducible refine nd_intro ?_ ?_; · omega))
  · obtain ⟨hs1, hs2⟩ := szS_le (by omega : 0 ≤ szS l 1048576)
    have hl2 : l.length ≤ 1048576 := by omega
    have ht := ev_toDutyS l hl2
    obtain ⟨G, c, hGl, hI, hS⟩ : ∃ (G : List (Int × Int)) (c : Int), G.length < 1048576 ∧
        lim C0 (.func 7) [.sl false 3 (l.map dutyV), .int .i64 a, .int .i64 b, .int .i64 need] = some [.sl true 1 ((LL G).map (intsV true)), .int .i64 c] ∧
        lim C0 (.func 5) [.sl false 3 (l.map dutyV), .int .i64 a, .int .i64 b, .int .i64 need] = some [.sl true 1 ((LL G).map (intsV true)), .int .i64 c] := by
      have h1 := ev_WatchGapsI l hl hk a b need
      have h2 := ev_WatchGapsS l hl hk a b need
      by_cases h0 : gapsC l a b need = 0
      · refine ⟨gapsI l a b need, 0, ?_, ?_, ?_⟩
        · have hb : betweenC l a b = 0 := by
            unfold gapsC at h0
            split at h0
            · assumption
            · exact h0
          have hv := (valid_ok (betweenC_0 hb).1).2
          have e1 := gapGo_len (manned l need) (sortT ([a, b] ++ clamps a b l)) []
          have e2 := compact_len (([a, b] ++ clamps a b l).mergeSort fun x y => decide (x ≤ y))
          rw [List.length_mergeSort, List.length_append, clamps_length] at e2
          unfold gapsI
          have e3 : (sortT ([a, b] ++ clamps a b l)).length ≤ 2 + 2 * l.length := e2
          simp only [List.length_nil, Nat.zero_add] at e1
          omega
        · rw [h1, if_pos h0, h0, pairs_LL]
        · rw [h2, if_pos h0, h0, gaps_eq l h0, pairs_LL]
      · refine ⟨[], gapsC l a b need, by simp, ?_, ?_⟩
        · rw [h1, if_neg h0]; rfl
        · rw [h2, if_neg h0]; rfl
    have hsum := sumLL G
    have hLl : (LL G).length = G.length := by simp [LL]
    have he := ev_eqInt64SS false false (LL G) (by omega) (by intro x hx; obtain ⟨p, _, rfl⟩ := List.mem_map.1 hx; simp)
    have heD := ev_eqDutyS l hl
    obtain ⟨l', hmD⟩ := ev_markDutyS l hl2
    have hmI := ev_markInt64SS (LL G) 1 (by omega) (by omega) (by omega)
    have hhI := ev_heldInt64SS false (LL G) 1 (by omega) (by omega) (by omega)
    have d1 := deepLL (LL G)
    have d2 := deepLL (markLL (LL G) 1)
    have p1 : ¬ ((1 + 3 * l.length : Nat) : Int) < 0 := by omega
    have p2 : ¬ 1 + sumLen (LL G) < 0 := by omega
    clear hk hs1 hs2 hsum hLl hGl
    refine F3.fnS (xn _ _ (by decide)) rfl rfl ?_
    repeat' (first | (simp only [go_sem, reduceIte, Nat.reduceEqDiff, Nat.reduceAdd, Nat.reduceSub, Nat.reduceLeDiff, Nat.reduceLT, Nat.reduceMul, Nat.reduceBEq, reduceCtorEq, Int.reduceLT, Int.reduceLE, Int.reduceEq, Int.reduceToNat, Int.reduceAdd, Int.reduceSub, Int.reduceNeg, IntWalk.i64_in, *, fzI, fzD]) | (with_reducible refine br_pos ?_ (fun _ => ?_); · omega) | (with_reducible refine br_neg ?_ (fun _ => ?_); · omega) | with_reducible refine br_elim (fun _ => ?_) (fun _ => ?_) | with_reducible refine dr_intro (by kernel_rfl) ?_ | (with_reducible refine nd_intro ?_ ?_; · omega))
end Go.Lm.Ga
