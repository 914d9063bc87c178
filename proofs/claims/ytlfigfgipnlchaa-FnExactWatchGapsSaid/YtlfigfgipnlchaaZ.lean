/- For all arguments the law FnExactWatchGaps answers true: the program's WatchGaps returns what the reference's returns; no condition. For all arguments the law FnExactWatchGaps answers true: the program's WatchGaps returns what the reference's returns. No condition. -/
import Derived.Test.YtlfigfgipnlchaaM2
import Derived.Test.YtlfigfgipnlchaaM1
import Derived.Test.YtlfigfgipnlchaaR1
import Derived.Test.YtlfigfgipnlchaaRows

namespace Go.Lm.Ga
open Go.Proofs
set_option maxRecDepth 100000

theorem cells_int {n : Nat} {t : TypeId} {k : IntKind} {vs : List V} (hu : C0.P.underlying t = some (.int k)) (h : Dat C0.P n t vs) : ∃ x, vs = [.int k x] := by
  cases n with
  | zero => exact h.elim
  | succ n =>
    unfold Dat at h; rw [hu] at h
    obtain ⟨x, h, _⟩ := h; exact ⟨x, h⟩
theorem cells_str {n : Nat} {t : TypeId} {vs : List V} (hu : C0.P.underlying t = some .string) (h : Dat C0.P n t vs) : ∃ s, vs = [.str (bs s)] ∧ s.length ≤ reachBytes := by
  cases n with
  | zero => exact h.elim
  | succ n =>
    unfold Dat at h; rw [hu] at h
    obtain ⟨s, h, h2⟩ := h
    exact ⟨s.data.toList, by rw [h]; rfl, by simpa using h2⟩
theorem cells_duty {n : Nat} {vs : List V} (h : Dat C0.P n 36 vs) : ∃ d : Duty, .agg vs = dutyV d ∧ d.keeper.length ≤ reachBytes := by
  cases n with
  | zero => exact h.elim
  | succ n =>
    unfold Dat at h; rw [un36] at h
    simp only [List.map_cons, List.map_nil, DatL] at h
    obtain ⟨a, _, rfl, h1, b, _, rfl, h2, c, _, rfl, h3, rfl⟩ := h
    obtain ⟨s, rfl, hs⟩ := cells_str un9 h1
    obtain ⟨x, rfl⟩ := cells_int un2 h2
    obtain ⟨y, rfl⟩ := cells_int un2 h3
    exact ⟨⟨s, x, y⟩, rfl, hs⟩
theorem arg_int {v : V} (h : ArgD C0.P 2 v) : ∃ x, v = .int .i64 x := by
  obtain ⟨n, vs, h, rfl⟩ := h
  obtain ⟨x, rfl⟩ := cells_int un2 h
  exact ⟨x, by simp [mkV, ag2]⟩
theorem reach62 : reachBytes < 4611686018427387904 := by decide
theorem arg_duties {v : V} (h : ArgD C0.P 22 v) : ∃ l : List Duty, v = .sl false 3 (l.map dutyV) ∧ l.length < 4611686018427387904 ∧ ∀ d ∈ l, d.keeper.length < 4611686018427387904 := by
  obtain ⟨n, vs, h, rfl⟩ := h
  cases n with
  | zero => exact h.elim
  | succ n =>
    unfold Dat at h; rw [un22] at h
    obtain ⟨ls, rfl, h1, h2⟩ := h
    have hb : C0.P.bytesOf 36 = 32 := by kernel_rfl
    have hc : C0.P.cellsOf 36 = 3 := by kernel_rfl
    have hr := reach62
    have key : ∃ l : List Duty, ls.map (mkV (aggT C0.P 36 == some true)) = l.map dutyV ∧ l.length = ls.length ∧ ∀ d ∈ l, d.keeper.length ≤ reachBytes := by
      clear h1
      induction ls with
      | nil => exact ⟨[], rfl, rfl, by simp⟩
      | cons x ls ih =>
        obtain ⟨l, e1, e2, e3⟩ := ih fun y hy => h2 y (by simp [hy])
        obtain ⟨d, d1, d2⟩ := cells_duty (h2 x (by simp))
        refine ⟨d :: l, ?_, by simp [e2], ?_⟩
        · rw [List.map_cons, List.map_cons, e1, ← d1]
          simp [mkV, ag36]
        · intro y hy
          rcases List.mem_cons.1 hy with rfl | hy
          · exact d2
          · exact e3 y hy
    obtain ⟨l, e1, e2, e3⟩ := key
    refine ⟨l, ?_, ?_, fun d hd => Nat.lt_of_le_of_lt (e3 d hd) hr⟩
    · rw [e1, hc]
      have : (aggT C0.P 22 == some true) = false := by rw [ag22]; rfl
      rw [this]; rfl
    · rw [hb] at h1; omega
theorem law_args (vals : List V) (h : ArgsD C0.P Try.f3.params.toList vals) : lim C0 (.func 3) vals = some [.bool true] := by
  have hp : Try.f3.params.toList = [22, 2, 2, 2] := by kernel_rfl
  rw [hp] at h
  match vals, h with
  | [v0, v1, v2, v3], ⟨h0, h1, h2, h3, _⟩ =>
    obtain ⟨l, rfl, hl, hk⟩ := arg_duties h0
    obtain ⟨a, rfl⟩ := arg_int h1
    obtain ⟨b, rfl⟩ := arg_int h2
    obtain ⟨c, rfl⟩ := arg_int h3
    exact law_true l hl hk a b c
end Go.Lm.Ga
namespace Go.Proofs.Ytlfigfgipnlchaa
open Go.Lm Go.Lm.Ga
theorem own : ownKnob Try.prog.godebug = none := by kernel_rfl
set_option maxRecDepth 100000 in
theorem lifted (os : Os) (started : os.Started) (H : Type) (enc : TypeId × Value → H) :
    ReturnsInHanded {} Try.checked os 3 .any (Rows.fnExactWatchGapsSpec.pre6 enc Try.prog Try.f3 Rows.fnExactWatchGapsRow.domain false) (Rows.fnExactWatchGapsSpec.post enc Try.prog Try.f3 false true false false) := by
  refine returnsInHanded_of_change_sized (C := Try.checked) own started (by kernel_rfl) Try.func3
    (ChangeSpec.witness6 (enc := enc) (C := Try.checked) false ⟨#[], #[.slice none 0 0, .int .i64 0, .int .i64 0, .int .i64 0], []⟩ 8 (by kernel_rfl) (by kernel_rfl) (by kernel_rfl) (by kernel_rfl)) ?_
  intro W base args ds gs before hval hW _ hsz _
  exact law_contract (C := C0) sound0 (fn := Try.f3) (tb := 4) Try.func3 mt_3 (by kernel_rfl) un4 rfl (by kernel_rfl) (by kernel_rfl) (by kernel_rfl) (fun ds h => by
    have hp : Try.f3.params.size = 4 := by kernel_rfl
    rw [hp] at h
    match ds, h with
    | [d1, d2, d3, d4], _ => exact ⟨rfl, rfl, rfl⟩) law_args base args ds gs before hval hW hsz
theorem over : Rows.fnExactWatchGapsRow.holds Try.pinned (OpenSpec.ofChange Rows.fnExactWatchGapsSpec) :=
  OpenClaim.holds_of_wide 3 Try.f3 rfl rfl rfl rfl rfl rfl rfl ⟨rfl, rfl, rfl, rfl, rfl⟩ rfl rfl rfl rfl rfl (by kernel_rfl) Try.func3 (by kernel_rfl)
    (of_decide_eq_true (by kernel_rfl)) (by unfold Func.isWrapper; first | (rw [if_pos (by decide +kernel)]; kernel_rfl) | (rw [if_neg (by decide +kernel)]; exact ⟨rfl, rfl⟩))
    (fun os started H enc _ => lifted os started H enc)
theorem fnExactWatchGaps_holds : Rows.FnExactWatchGapsSaid := over
#print axioms fnExactWatchGaps_holds
end Go.Proofs.Ytlfigfgipnlchaa
