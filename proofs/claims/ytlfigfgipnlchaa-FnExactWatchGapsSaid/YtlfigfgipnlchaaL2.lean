/- Elements, parts and lengths, sound. Indexes into values, parts of tuples, closures, slices of slices, lengths: sound. Parts of slices, lengths, least and greatest: sound. Structs, arrays and slices that are built: sound. Slices that are built, made, appended to: sound. append, sound. Lending, reading and giving back arguments: sound. Calls, sound. The call of a function, sound. Every operation, sound; an operation that a guard may leave out; a region in the text's order. Regions, sound: in the text's order, and in any order that the edges allow. Regions, sound. A function's end: what it returns, and what it gives back. Bodies, sound: the todo list behind a continuation, the cuts. -/
import Derived.Test.YtlfigfgipnlchaaL1
import Derived.Laws.BytesString
import Derived.Laws.Append
import Derived.Lib.ConvBytes
import Derived.Orders

namespace Go.Lm

section
variable {C : Ctx} {m : Sem_} {g : Gh} {n : Nat} {E : Env} {U : Nat → Prop} {tm : Array Value} {w : World} {I : Nat → Prop} {fp : Nat → List Nat} {H : List Nat}

theorem valid_intro {h : Heap} {s st ct ct' : Nat} {p : Path} {v x : V} {c : Value} (h1 : E s = .own st ct' v) (h2 : v.get p = some x) (h3 : walkC h v (tmf tm s) p = some c)
    {Q : Nat → Value → Prop} (hq : Q x.nsz c) : Valid E h tm s st ct p Q := by
  intro ct1 v1 x1 cn k1 k2 k3 k4 k5
  rw [h1] at k1
  simp only [Bd.own.injEq, true_and] at k1
  obtain ⟨rfl, rfl⟩ := k1
  rw [h2] at k3; rw [h3] at k5
  simp only [Option.some.injEq] at k3 k5
  subst k3 k5; exact hq

theorem part_run {P : Program} {t : TypeId} {vs : List V} {cs : Array Value} {off : Nat} {v : V} {h : Heap} {I : Nat → Prop} {bs : List Nat} (hl : RelL h I vs cs.toList bs)
    {E' : Env} (hr : (partV P t vs off).run E = some (v, E')) (w : World) :
    E = E' ∧ ∃ c, (part t cs off).run P w = .ok c w ∧ (∃ bx, RelV h I v c bx ∧ (bs = [] → bx = [])) ∧ (v.isAgg = false → aggT P t = some false ∨ v.isAgg = true) ∧
      (aggT P t = some false → cs[off]? = some c ∧ vs[off]? = some v) ∧ (aggT P t = some true → v.isAgg = true) ∧ (∃ b, aggT P t = some b) := by
  unfold partV at hr
  obtain ⟨k, E1, e1, hr1⟩ := run_bind_some hr
  obtain ⟨hk, rfl⟩ := run_opt_some' e1
  obtain ⟨ag, E2, e2, hr2⟩ := run_bind_some hr1
  obtain ⟨hag, rfl⟩ := run_opt_some' e2
  simp only at hk hag
  cases ag with
  | true =>
    simp only [if_true] at hr2
    obtain ⟨u, E3, e3, hr3⟩ := run_bind_some hr2
    obtain ⟨hle, rfl⟩ := run_need_some e3
    have := run_pure_some hr3
    simp only [Prod.mk.injEq] at this
    obtain ⟨rfl, rfl⟩ := this
    obtain ⟨pre, bm, post, hbs, rm, _, _⟩ := RelL.take hl off k
    refine ⟨rfl, .agg (cs.extract off (off + k)), by simp [part, isAgg_run hag, sizeOf_run hk], ⟨bm, .agg _ _ _ ?_, ?_⟩, by simp [V.isAgg], by simp [hag], by simp [V.isAgg], true, hag⟩
    · rw [Array.toList_extract]; simpa [List.extract] using rm
    · intro e; rw [e] at hbs; simpa using (List.append_eq_nil_iff.1 (List.append_eq_nil_iff.1 hbs.symm).1).2
  | false =>
    simp only [Bool.false_eq_true, if_false] at hr2
    obtain ⟨hv, rfl⟩ := run_opt_some' hr2
    simp only at hv
    obtain ⟨c, pre, bx, post, h1, h2, h3⟩ := RelL.cell hl hv
    refine ⟨rfl, c, ?_, ⟨bx, h3, ?_⟩, fun _ => .inl hag, fun _ => ⟨by simpa using h1, hv⟩, by simp [hag], false, hag⟩
    · have h1' : cs[off]? = some c := by simpa using h1
      simp [part, isAgg_run hag, h1']
    · intro e; rw [e] at h2; simpa using (List.append_eq_nil_iff.1 (List.append_eq_nil_iff.1 h2.symm).1).2

theorem field_ok (S : SH g n E U tm w.heap I fp []) {st0 : Nat} {o : Oper} {s : TypeId} {x : Operand} {f : Nat} (ho : o.op = .field s x f) (hd : ∀ d, o.dst = some d → d < n) {E' : Env} {u : Unit}
    (hr : (opP C m st0 o).run E = some (u, E')) : Res C.P o tm w (Goal g n E' (more U st0) w) := by
  simp only [opP, ho] at hr
  obtain ⟨⟨off, ft⟩, E1, e1, hr1⟩ := run_bind_some hr
  obtain ⟨hf, rfl⟩ := run_opt_some' e1
  obtain ⟨b, E3, e3, hr3⟩ := run_bind_some hr1
  obtain ⟨rfl, rb, sb, nb⟩ := ev_ok S e3
  simp only at hf
  obtain ⟨fs, fx, hu, hfx, hoff, hty⟩ := fieldT_run hf
  have hrun : ∀ (arr : Array Value) c, evc tm x = .agg arr → (part ft arr off).run C.P w = .ok c w → (execOp (evc tm) o).run C.P w = .ok (.value c) w := by
    intro arr c ha hp
    subst hoff hty
    simp [execOp, ho, Instr.field, underlying, hu, hfx, ha, asAgg, hp]
  split at hr3
  · rename_i cs
    obtain ⟨v, E4, e4, hr4⟩ := run_bind_some hr3
    have rb2 : RelV w.heap I (.agg cs) (evc tm x) [] := rb.2
    generalize hc : evc tm x = c at rb2
    cases rb2 with
    | agg vs arr bs hl =>
      obtain ⟨rfl, c, h1, ⟨bx, h2, h3⟩, _⟩ := part_run hl e4 w
      rw [h3 rfl] at h2
      exact .value (hrun arr c hc h1) ⟨.refl w, fin_val S hd hr4 h2⟩
  · rename_i sl st ct p
    obtain ⟨y, E4, e4, hr4⟩ := run_bind_some hr3
    obtain ⟨hy, rfl⟩ := run_rdAt_some e4
    obtain ⟨ct', v0, c', h1, h2, h3, h4, h5, h6, pre, bx, post, h7, h8, _⟩ := S.at hy
    have hcc : evc tm x = c' := h6 (fun _ cn => evc tm x = cn) rb.2
    split at hr4
    case h_2 => simp [run_fail] at hr4
    rename_i cs
    obtain ⟨v, E5, e5, hr5⟩ := run_bind_some hr4
    generalize hbx : bx = bx' at h8
    generalize hc : c' = c'' at h8
    cases h8 with
    | agg vs arr bs hl =>
      obtain ⟨rfl, c, g1, ⟨bx2, g2, g3⟩, g4, g5, g6, bag, g7⟩ := part_run hl e5 w
      have hx : evc tm x = .agg arr := by rw [hcc, hc]
      have hrun' := hrun arr c hx g1
      split at hr5
      · rename_i hsh
        obtain rfl := shared_nil g2 hsh
        exact .value hrun' ⟨.refl w, fin_val S hd hr5 g2⟩
      · obtain ⟨u1, E6, e6, hr6⟩ := run_bind_some hr5
        obtain ⟨hna, rfl⟩ := run_need_some e6
        have hag : aggT C.P ft = some false := by
          cases bag with
          | false => exact g7
          | true => rw [g6 g7] at hna; simp at hna
        obtain ⟨g8, g9⟩ := g5 hag
        refine .value hrun' ⟨.refl w, fin_ref S hd hr6 sb (by intro; simp) ⟨rfl, ?_⟩⟩
        have hget : v0.get (p ++ [(0, off)]) = some v := by
          rw [get_append, h3]; simp [V.get, V.child, g9]
        have hwalk : walkC w.heap v0 (tmf tm sl) (p ++ [(0, off)]) = some c := by
          rw [walkC_append, h5, h3]; simp [walkC, hc, childC, g8, V.child, g9]
        exact valid_intro h1 hget hwalk rfl
  · simp [run_fail] at hr3

theorem elem_cptr {h : Heap} {I : Nat → Prop} {v e : V} {c : Value} {i : Nat} (hr : RelV h I v c []) (he : v.elem i = some e) :
    ∃ b off, baseOf c b off ∧ RelV h I (.cptr e 0) (.pointer (some ⟨b, off + i * v.nsz, none⟩)) [] := by
  obtain ⟨b, off, cs, el, fr, pre, be, post, g1, g2, g3, g4, g5, g6, g7, _⟩ := RelV.elem hr he
  have hnil := List.append_eq_nil_iff.1 g4.symm
  have hnil2 := List.append_eq_nil_iff.1 hnil.1
  rw [hnil2.2] at g5
  have hI : I b := g7.resolve_right (by rw [hnil2.1]; simp)
  exact ⟨b, off, g1, .cptr e 0 b (off + i * v.nsz) cs el fr hI g2 g3 (by omega) g5 g6⟩

theorem slice_len {h : Heap} {I : Nat → Prop} {o : Bool} {sz : Nat} {es : List V} {c : Value} {bs : List Nat} (hr : RelV h I (.sl o sz es) c bs) :
    ∃ a cap, c = .slice a es.length cap ∧ es.length ≤ cap := by
  cases hr with
  | slE _ a cap => exact ⟨a, cap, rfl, by simp⟩
  | slZ _ _ a => exact ⟨a, 0, rfl, by simp⟩
  | sh _ _ b off cap => exact ⟨_, cap, rfl, by assumption⟩
  | ow _ _ b off cap => exact ⟨_, cap, rfl, by assumption⟩

theorem indexAddr_ok (S : SH g n E U tm w.heap I fp []) {st0 : Nat} {o : Oper} {t : TypeId} {x ix : Operand} (ho : o.op = .indexAddr t x ix) (hd : ∀ d, o.dst = some d → d < n) {E' : Env} {u : Unit}
    (hr : (opP C m st0 o).run E = some (u, E')) : Res C.P o tm w (Goal g n E' (more U st0) w) := by
  simp only [opP, ho] at hr
  obtain ⟨b, E3, e3, hr3⟩ := run_bind_some hr
  obtain ⟨rfl, rb, sb, nb⟩ := ev_ok S e3
  obtain ⟨vi, E4, e4, hr4⟩ := run_bind_some hr3
  obtain ⟨rfl, ri⟩ := evV_ok S e4
  split at hr4
  case h_2 => simp [run_fail] at hr4
  rename_i k i
  have hi := rel_int ri
  unfold indexP at hr4
  split at hr4
  · rename_i e hu
    obtain ⟨z, E5, e5, hr5⟩ := run_bind_some hr4
    obtain ⟨hz, rfl⟩ := run_opt_some' e5
    simp only at hz
    have hrun : ∀ b off len cap, evc tm x = .slice (some ⟨b, off, none⟩) len cap → 0 ≤ i → i.toNat < len →
        (execOp (evc tm) o).run C.P w = .ok (.value (.pointer (some ⟨b, off + i.toNat * z, none⟩))) w := by
      intro b off len cap hx h0 h1
      have : i < (len : Int) := by omega
      simp [execOp, ho, Instr.indexAt, hi, asIntOf, underlying, hu, hx, h0, this, sizeOf_run hz, add_none]
    split at hr5
    · rename_i o' sz es
      obtain ⟨u1, E6, e6, hr6⟩ := run_bind_some hr5
      obtain ⟨hn, rfl⟩ := run_need_some e6
      obtain ⟨y, E7, e7, hr7⟩ := run_bind_some hr6
      obtain ⟨hy, rfl⟩ := run_opt_some' e7
      simp only [Bool.and_eq_true, decide_eq_true_eq, beq_iff_eq] at hn hy
      obtain ⟨⟨h0, h1⟩, rfl⟩ := hn
      obtain ⟨b2, off, hb, hrel⟩ := elem_cptr (i := i.toNat) (e := y) rb.2 (by simpa [V.elem] using hy)
      obtain ⟨a, cap, hc, _⟩ := slice_len rb.2
      rcases hb with ⟨len', cap', hb⟩ | hb
      · rw [hb] at hc
        simp only [Value.slice.injEq] at hc
        obtain ⟨_, rfl, rfl⟩ := hc
        exact .value (hrun b2 off _ _ hb h0 h1) ⟨.refl w, fin_val S hd hr7 hrel⟩
      · rw [hb] at hc; simp at hc
    · rename_i s st ct p
      obtain ⟨y, E6, e6, hr6⟩ := run_bind_some hr5
      obtain ⟨hy, rfl⟩ := run_rdAt_some e6
      obtain ⟨ct', v0, c', h1, h2, h3, h4, h5, h6, pre, bx, post, h7, h8, _⟩ := S.at hy
      have hcc : evc tm x = c' := h6 (fun _ cn => evc tm x = cn) rb.2
      subst hcc
      split at hr6
      case h_2 => simp [run_fail] at hr6
      rename_i o' sz es
      obtain ⟨u1, E7, e7, hr7⟩ := run_bind_some hr6
      obtain ⟨hn, rfl⟩ := run_need_some e7
      simp only [Bool.and_eq_true, decide_eq_true_eq, beq_iff_eq] at hn
      obtain ⟨⟨hi0, hi1⟩, rfl⟩ := hn
      obtain ⟨a, cap, hc, _⟩ := slice_len h8
      obtain ⟨y, hy2⟩ : ∃ y, es[i.toNat]? = some y := ⟨es[i.toNat], by simp [hi1]⟩
      obtain ⟨b2, off, cs, el, fr, pre2, be, post2, g1, _⟩ := RelV.elem (i := i.toNat) (e := y) h8 (by simpa [V.elem] using hy2)
      have hb : ∃ len cap, evc tm x = .slice (some ⟨b2, off, none⟩) len cap := by
        rcases g1 with g1 | g1
        · exact g1
        · rw [g1] at hc; simp at hc
      obtain ⟨len', cap', hb⟩ := hb
      rw [hb] at hc
      simp only [Value.slice.injEq] at hc
      obtain ⟨_, rfl, rfl⟩ := hc
      split at hr7
      · refine .value (hrun b2 off _ _ hb hi0 hi1) ⟨.refl w, fin_ref S hd hr7 sb (by intro; simp) ⟨rfl, ?_⟩⟩
        exact valid_intro h1 h3 h5 ⟨b2, off, .inl ⟨_, _, hb⟩, by simp [V.nsz]⟩
      · obtain ⟨y', E8, e8, hr8⟩ := run_bind_some hr7
        obtain ⟨hy', rfl⟩ := run_opt_some' e8
        rename_i ho'
        have ho2 : o' = false := by simpa using ho'
        subst ho2
        obtain rfl := shared_nil h8 rfl
        obtain ⟨b3, off3, hb3, hrel⟩ := elem_cptr (i := i.toNat) (e := y') h8 (by simpa [V.elem] using hy')
        obtain ⟨rfl, rfl⟩ := base_inj hb3 (.inl ⟨_, _, hb⟩)
        exact .value (hrun b2 off _ _ hb hi0 hi1) ⟨.refl w, fin_val S hd hr8 hrel⟩
    · rename_i s st ct p lo mm
      obtain ⟨y, E6, e6, hr6⟩ := run_bind_some hr5
      obtain ⟨hy, rfl⟩ := run_rdAt_some e6
      obtain ⟨ct', v0, c', h1, h2, h3, h4, h5, h6, pre, bx, post, h7, h8, _⟩ := S.at hy
      have hsub := h6 _ rb.2
      split at hr6
      case h_2 => simp [run_fail] at hr6
      rename_i o' sz es
      obtain ⟨u1, E7, e7, hr7⟩ := run_bind_some hr6
      obtain ⟨hn, rfl⟩ := run_need_some e7
      simp only [Bool.and_eq_true, decide_eq_true_eq, beq_iff_eq] at hn
      obtain ⟨⟨hi0, hi1, hi2⟩, rfl⟩ := hn
      obtain ⟨a, cap, hc, _⟩ := slice_len h8
      obtain ⟨y, hy2⟩ : ∃ y, es[lo + i.toNat]? = some y := ⟨es[lo + i.toNat]'(by omega), by rw [List.getElem?_eq_getElem]⟩
      obtain ⟨b2, off, cs, el, fr, pre2, be, post2, g1, _⟩ := RelV.elem (i := lo + i.toNat) (e := y) h8 (by simpa [V.elem] using hy2)
      obtain ⟨a1, len1, cap1, a', q1, q2, q3, q4⟩ := hsub
      have hb : ∃ len cap, c' = .slice (some ⟨b2, off, none⟩) len cap := by
        rcases g1 with g1 | g1
        · exact g1
        · rw [g1] at hc; simp at hc
      obtain ⟨len', cap', hb⟩ := hb
      rw [hb] at q1
      simp only [Value.slice.injEq] at q1
      obtain ⟨rfl, rfl, rfl⟩ := q1
      rcases q4 with q4 | ⟨b3, off3, q4, q5⟩
      · omega
      simp only [Option.some.injEq, Addr.mk.injEq, and_true] at q4
      obtain ⟨rfl, rfl⟩ := q4
      subst q5
      simp only [V.nsz] at q2
      have hrun' := hrun b2 (off + lo * sz) _ _ q2 hi0 hi1
      have hadd : off + lo * sz + i.toNat * sz = off + ((lo + i.toNat) * sz + 0) := by rw [Nat.add_mul]; omega
      split at hr7
      · refine .value hrun' ⟨.refl w, fin_ref S hd hr7 sb (by intro; simp) ⟨rfl, ?_⟩⟩
        exact valid_intro h1 h3 h5 ⟨b2, off, .inl ⟨_, _, hb⟩, by simp only [V.nsz]; rw [hadd]⟩
      · obtain ⟨y', E8, e8, hr8⟩ := run_bind_some hr7
        obtain ⟨hy', rfl⟩ := run_opt_some' e8
        rename_i ho'
        have ho2 : o' = false := by simpa using ho'
        subst ho2
        obtain rfl := shared_nil h8 rfl
        obtain ⟨b3, off3, hb3, hrel⟩ := elem_cptr (i := lo + i.toNat) (e := y') h8 (by simpa [V.elem] using hy')
        obtain ⟨rfl, rfl⟩ := base_inj hb3 (.inl ⟨_, _, hb⟩)
        refine .value hrun' ⟨.refl w, fin_val S hd hr8 ?_⟩
        rw [hadd, Nat.add_zero]; exact hrel
    · simp [run_fail] at hr5
  · rename_i len e hu
    obtain ⟨z, E5, e5, hr5⟩ := run_bind_some hr4
    obtain ⟨hz, rfl⟩ := run_opt_some' e5
    obtain ⟨u1, E6, e6, hr6⟩ := run_bind_some hr5
    obtain ⟨hn, rfl⟩ := run_need_some e6
    simp only [decide_eq_true_eq] at hn hz
    obtain ⟨q, E7, e7, hr7⟩ := run_bind_some hr6
    obtain ⟨rfl, hq⟩ := asPtr_ok S sb rb e7
    have hrun : ∀ a, evc tm x = .pointer (some a) → (execOp (evc tm) o).run C.P w = .ok (.value (.pointer (some (a.add (i.toNat * z))))) w := by
      intro a ha
      simp [execOp, ho, Instr.indexAt, hi, asIntOf, underlying, hu, ha, Instr.sureAddr, hn.1, hn.2, sizeOf_run hz]
    cases q with
    | c y j =>
      simp only at hr7
      obtain ⟨u2, E8, e8, hr8⟩ := run_bind_some hr7
      obtain ⟨hle, rfl⟩ := run_need_some e8
      simp only [decide_eq_true_eq] at hle
      obtain ⟨a, ha, hrel⟩ := cptr_add hq hle
      exact .value (hrun a ha) ⟨.refl w, fin_val S hd hr8 hrel⟩
    | r sl st ct p i2 j =>
      simp only at hr7
      obtain ⟨us, uc, hval⟩ : U st ∧ U ct ∧ Valid E w.heap tm sl st ct p (ptrOf i2 j (evc tm x)) := hq
      obtain ⟨nd, E8, e8, hr8⟩ := run_bind_some hr7
      obtain ⟨hnd, rfl⟩ := run_rdAt_some e8
      obtain ⟨a, ha⟩ := ptr_live S hval hnd
      exact .value (hrun a ha) ⟨.refl w, fin_ref S hd hr8 ⟨us, uc⟩ (by intro; simp) ⟨rfl, ptr_add hval ha⟩⟩
  · simp [run_fail] at hr4

end

end Go.Lm

namespace Go.Lm

section
variable {C : Ctx} {m : Sem_} {g : Gh} {n : Nat} {E : Env} {U : Nat → Prop} {tm : Array Value} {w : World} {I : Nat → Prop} {fp : Nat → List Nat} {H : List Nat}

theorem index_ok (S : SH g n E U tm w.heap I fp []) {st0 : Nat} {o : Oper} {t : TypeId} {x ix : Operand} (ho : o.op = .index t x ix) (hd : ∀ d, o.dst = some d → d < n) {E' : Env} {u : Unit}
    (hr : (opP C m st0 o).run E = some (u, E')) : Res C.P o tm w (Goal g n E' (more U st0) w) := by
  simp only [opP, ho] at hr
  obtain ⟨vx, E3, e3, hr3⟩ := run_bind_some hr
  obtain ⟨rfl, rx⟩ := evV_ok S e3
  obtain ⟨vi, E4, e4, hr4⟩ := run_bind_some hr3
  obtain ⟨rfl, ri⟩ := evV_ok S e4
  split at hr4
  · rename_i s k i hu
    have hx := rel_str rx
    have hi := rel_int ri
    obtain ⟨u1, E5, e5, hr5⟩ := run_bind_some hr4
    obtain ⟨hn, rfl⟩ := run_need_some e5
    simp only [decide_eq_true_eq] at hn
    refine .value (v := .int .u8 ((s.data.getD i.toNat 0).toNat : Nat)) ?_ ⟨.refl w, fin_val S hd hr5 (.int _ _)⟩
    have hb : s[i.toNat]? = some (s.data.getD i.toNat 0) := by
      have h2 : i.toNat < s.data.size := hn.2
      rw [getElem?_pos s i.toNat hn.2]
      congr 1
      unfold Array.getD
      rw [dif_pos h2]
      rfl
    simp [execOp, ho, Instr.index, hi, asIntOf, underlying, hu, hx, hn.1, hb]
  · rename_i cs k i len e hu
    have hi := rel_int ri
    obtain ⟨z, E5, e5, hr5⟩ := run_bind_some hr4
    obtain ⟨hz, rfl⟩ := run_opt_some' e5
    obtain ⟨u1, E6, e6, hr6⟩ := run_bind_some hr5
    obtain ⟨hn, rfl⟩ := run_need_some e6
    simp only [decide_eq_true_eq] at hn hz
    obtain ⟨v, E7, e7, hr7⟩ := run_bind_some hr6
    obtain ⟨u2, E8, e8, hr8⟩ := run_bind_some hr7
    obtain ⟨hs, rfl⟩ := run_need_some e8
    generalize hc : evc tm x = c at rx
    cases rx with
    | agg vs arr bs hl =>
      obtain ⟨rfl, c, h1, ⟨bx, h2, h3⟩, _⟩ := part_run hl e7 w
      rw [h3 rfl] at h2
      refine .value (v := c) ?_ ⟨.refl w, fin_val S hd hr8 (h2.solid rfl hs)⟩
      simp [execOp, ho, Instr.index, hi, asIntOf, underlying, hu, hc, hn.1, hn.2, sizeOf_run hz, h1]
  · simp [run_fail] at hr4

theorem extract_ok (S : SH g n E U tm w.heap I fp []) {st0 : Nat} (hst : ¬ U st0) {o : Oper} {x : Operand} {i : Nat} (ho : o.op = .extract x i) (hd : ∀ d, o.dst = some d → d < n) {E' : Env} {u : Unit}
    (hr : (opP C m st0 o).run E = some (u, E')) : Res C.P o tm w (Goal g n E' (more U st0) w) := by
  simp only [opP, ho] at hr
  obtain ⟨b, E1, e1, hr1⟩ := run_bind_some hr
  obtain ⟨rfl, rb, sb, nb⟩ := ev_ok S e1
  have hrun : ∀ (arr : Array Value) c, evc tm x = .tuple arr → arr.toList[i]? = some c → (execOp (evc tm) o).run C.P w = .ok (.value c) w := by
    intro arr c ha hc
    have hc' : arr[i]? = some c := by simpa using hc
    simp [execOp, ho, Instr.extract, ha, hc']
  split at hr1
  · rename_i vs
    obtain ⟨v, E2, e2, hr2⟩ := run_bind_some hr1
    obtain ⟨hv, rfl⟩ := run_opt_some' e2
    simp only at hv
    have rb2 : RelV w.heap I (.tup vs) (evc tm x) [] := rb.2
    generalize hc : evc tm x = c at rb2
    cases rb2 with
    | tup vs arr bs hl =>
      obtain ⟨c, pre, bx, post, h1, h2, h3⟩ := RelL.cell hl hv
      obtain ⟨rfl, rfl, rfl⟩ : pre = [] ∧ bx = [] ∧ post = [] := by simpa using h2.symm
      exact .value (hrun arr c hc h1) ⟨.refl w, fin_val S hd hr2 h3⟩
  · rename_i s st ct
    obtain ⟨y, E2, e2, hr2⟩ := run_bind_some hr1
    obtain ⟨hy, rfl⟩ := run_rdAt_some e2
    obtain ⟨ct', v0, c', h1, h2, h3, h4, h5, h6, pre, bx, post, h7, h8, h9⟩ := S.at hy
    have hcc : evc tm x = c' := h6 (fun _ cn => evc tm x = cn) rb.2
    simp only [V.get, Option.some.injEq] at h3
    subst h3
    simp only [walkC, Option.some.injEq] at h5
    split at hr2
    case h_2 => simp [run_fail] at hr2
    rename_i vs
    obtain ⟨v, E3, e3, hr3⟩ := run_bind_some hr2
    obtain ⟨hv, rfl⟩ := run_opt_some' e3
    simp only at hv
    have hown := S.own h1
    rw [h5, ← hcc] at hown
    generalize hc : evc tm x = c at hown
    generalize hfs : fp s = bs at hown
    cases hown with
    | tup vs arr bs hl =>
      obtain ⟨c, pre1, bx1, post1, g1, g2, g3, g4⟩ := RelL.at hl hv
      have hrun' := hrun arr c hc g1
      split at hr3
      · rename_i hsh
        obtain rfl := shared_nil g3 hsh
        exact .value hrun' ⟨.refl w, fin_val S hd hr3 g3⟩
      · obtain ⟨u1, E4, e4, hr4⟩ := run_bind_some hr3
        simp only [wrAt, run_bind, run_getS, Option.bind_some, h1] at e4
        obtain ⟨_, e4⟩ := ite_fail e4
        obtain ⟨v', E5, e5, e6⟩ := run_bind_some e4
        obtain ⟨hv', rfl⟩ := run_opt_some' e5
        simp only [V.put, Option.some.injEq] at hv'
        simp only [run_setS, Option.getD_none, Option.some.injEq, Prod.mk.injEq] at e6
        obtain ⟨_, rfl⟩ := e6
        have hstamp : U st ∧ U ct' := by have := S.stamp s (S.lt_of_own h1); rw [h1] at this; exact this
        have hnd := S.nodup s
        rw [hfs, g2, List.nodup_append, List.nodup_append] at hnd
        obtain ⟨⟨n1, n2, n12⟩, n3, n123⟩ := hnd
        have hrel : RelV w.heap I (.tup (vs.set i .any)) (tmf tm s) (pre1 ++ [] ++ post1) := by
          rw [h5, ← hcc, hc]
          have := g4 w.heap I .any c [] (fun _ _ => rfl) (fun _ h => h) (.any c)
          rw [list_set_self _ _ _ g1] at this
          exact .tup _ _ _ this
        have S1 := SH.edit (bs := []) (fs := pre1 ++ [] ++ post1) (hs := bx1) (U' := U) (ct' := ct') (by simpa using S) h1 (fun _ h => h) hstamp.2 (fun _ h => h) (fun _ h => .inl h) (fun _ _ => rfl) rfl hrel
          (by
            intro r hr; left; rw [hfs, g2]; simp only [List.append_nil, List.mem_append] at hr ⊢
            rcases hr with (hr | hr) | hr <;> simp [hr])
          (by
            rw [List.append_nil, List.nodup_append, List.nodup_append]
            refine ⟨⟨n1, n3, fun a ha b hb => n123 a (by simp [ha]) b hb⟩, n2, ?_⟩
            intro a ha b hb e
            subst e
            rcases List.mem_append.1 ha with ha | ha
            · exact n12 a ha a hb rfl
            · exact n123 a (by simp [hb]) a ha rfl)
          (by
            intro r hr; refine S.notI s r ?_
            rw [hfs, g2]; simp only [List.append_nil, List.mem_append] at hr ⊢
            rcases hr with (hr | hr) | hr <;> simp [hr])
          (by
            intro ct0 p0 Q hct hv1 ct1 v1 x1 cn k1 k2 k3 k4 k5
            simp only [upd, if_true, Bd.own.injEq, true_and] at k1
            obtain ⟨rfl, rfl⟩ := k1
            cases p0 with
            | nil =>
              simp only [V.get, Option.some.injEq] at k3
              subst k3
              exact hv1 ct' (.tup vs) (.tup vs) cn h1 (.inl rfl) rfl (.inl rfl) (by simpa [walkC] using k5)
            | cons ij p0 =>
              obtain ⟨i0, j0⟩ := ij
              have hx0 : x1.loose = false := by simpa using k4
              simp only [V.get, V.child, Option.bind_eq_some_iff] at k3
              obtain ⟨z, hz, k3⟩ := k3
              split at hz
              case isFalse => simp at hz
              rename_i hi0
              subst hi0
              have hz2 : vs[j0]? = some z := by
                by_cases hj : j0 = i
                · subst hj
                  have hlt : j0 < (vs.set j0 .any).length := (List.getElem?_eq_some_iff.1 hz).1
                  rw [List.length_set] at hlt
                  rw [List.getElem?_set_self hlt] at hz
                  simp only [Option.some.injEq] at hz
                  subst hz
                  cases p0 with
                  | nil => simp only [V.get, Option.some.injEq] at k3; subst k3; simp [V.loose] at hx0
                  | cons _ _ => simp [V.get, V.child] at k3
                · rwa [List.getElem?_set_ne (Ne.symm hj)] at hz
              refine hv1 ct' (.tup vs) x1 cn h1 (by simpa using k2) (by simp [V.get, V.child, hz2, k3]) (.inr hx0) ?_
              simp only [walkC, V.child, if_true, hz, hz2] at k5 ⊢
              have e7 : childC w.heap (.tup (vs.set i .any)) (tmf tm s) 0 j0 = childC w.heap (.tup vs) (tmf tm s) 0 j0 :=
                childC_set (v := .tup vs) (i := 0) (j := i) (y := .any) rfl
              rw [e7] at k5; exact k5)
        have hv'' : v' = .tup (vs.set i .any) := hv'.symm
        subst hv''
        obtain ⟨I2, fp2, S2⟩ := fin_own hst S1 hd hr4 g3
        exact .value hrun' ⟨.refl w, I2, fp2, S2⟩
  · simp [run_fail] at hr1

theorem capsOf_ok (S : SH g n E U tm w.heap I fp H) : ∀ (xs : List Operand) {cs : List Cap} {E' : Env}, (capsOf C xs).run E = some (cs, E') →
    E = E' ∧ RelCaps E w.heap tm I cs (xs.map (evc tm)) ∧ ∀ k ∈ cs, k.stamps U := by
  intro xs
  induction xs with
  | nil =>
    intro cs E' hr
    have := run_pure_some hr
    simp only [Prod.mk.injEq] at this
    obtain ⟨rfl, rfl⟩ := this
    exact ⟨rfl, .nil, by simp⟩
  | cons x xs ih =>
    intro cs E' hr
    simp only [capsOf] at hr
    obtain ⟨k, E2, e2, hr2⟩ := run_bind_some hr
    obtain ⟨ks, E3, e3, hr3⟩ := run_bind_some hr2
    obtain ⟨b, E1, e1, hr1⟩ := run_bind_some e2
    obtain ⟨rfl, rb, sb, nb⟩ := ev_ok S e1
    have hk : E = E2 ∧ RelCap E w.heap tm I k (evc tm x) ∧ k.stamps U := by
      split at hr1
      · rename_i s st ct
        have := run_pure_some hr1
        simp only [Prod.mk.injEq] at this
        obtain ⟨rfl, rfl⟩ := this
        exact ⟨rfl, rb.2, sb⟩
      · rename_i v
        have := run_pure_some hr1
        simp only [Prod.mk.injEq] at this
        obtain ⟨rfl, rfl⟩ := this
        exact ⟨rfl, rb.2, trivial⟩
      · simp [run_fail] at hr1
    obtain ⟨rfl, hk1, hk2⟩ := hk
    obtain ⟨rfl, r2, s2⟩ := ih e3
    have := run_pure_some hr3
    simp only [Prod.mk.injEq] at this
    obtain ⟨rfl, rfl⟩ := this
    refine ⟨rfl, .cons _ _ _ _ hk1 r2, ?_⟩
    intro k' hk'
    rcases List.mem_cons.1 hk' with rfl | hk'
    · exact hk2
    · exact s2 k' hk'

theorem makeFunc_ok (S : SH g n E U tm w.heap I fp []) {st0 : Nat} {o : Oper} {f : FuncId} {first caps : Array Operand} (ho : o.op = .makeFunc (.func f) first caps) (hd : ∀ d, o.dst = some d → d < n) {E' : Env} {u : Unit}
    (hr : (opP C m st0 o).run E = some (u, E')) : Res C.P o tm w (Goal g n E' (more U st0) w) := by
  simp only [opP, ho] at hr
  obtain ⟨u1, E1, e1, hr1⟩ := run_bind_some hr
  obtain ⟨hf, rfl⟩ := run_need_some e1
  obtain ⟨cs, E2, e2, hr2⟩ := run_bind_some hr1
  obtain ⟨rfl, rc, sc⟩ := capsOf_ok S caps.toList e2
  have hfirst : first = #[] := by simpa using hf
  have hrun : (execOp (evc tm) o).run C.P w = .ok (.value (.func (.func f) #[] (caps.map (evc tm)))) w := by
    simp [execOp, ho, Instr.makeFunc, hfirst]
  refine .value hrun ⟨.refl w, ?_⟩
  split at hr2
  · rename_i hemp
    have : cs = [] := by simpa using hemp
    subst this
    have hcaps : caps = #[] := by
      generalize hl : caps.toList.map (evc tm) = l at rc
      cases rc
      have : caps.toList = [] := by simpa using hl
      simpa using this
    subst hcaps
    exact fin_val S hd hr2 (by simpa using (RelV.fn (h := w.heap) (I := I) f [] #[] [] .nil))
  · exact fin_ref S hd hr2 sc (by intro; simp) ⟨rfl, _, rfl, by rw [Array.toList_map]; exact rc⟩

end

end Go.Lm

namespace Go.Lm

section
variable {C : Ctx} {m : Sem_} {g : Gh} {n : Nat} {E : Env} {U : Nat → Prop} {tm : Array Value} {w : World} {I : Nat → Prop} {fp : Nat → List Nat} {H : List Nat}

theorem intOpt_ok (S : SH g n E U tm w.heap I fp H) {x : Option Operand} {r : Option Int} {E' : Env} (hr : (intOpt C x).run E = some (r, E')) :
    E = E' ∧ ((x = none ∧ r = none) ∨ ∃ y k i, x = some y ∧ r = some i ∧ evc tm y = .int k i) := by
  cases x with
  | none =>
    have := run_pure_some hr
    simp only [Prod.mk.injEq] at this
    obtain ⟨rfl, rfl⟩ := this
    exact ⟨rfl, .inl ⟨rfl, rfl⟩⟩
  | some y =>
    simp only [intOpt] at hr
    obtain ⟨v, E1, e1, hr1⟩ := run_bind_some hr
    obtain ⟨rfl, rv⟩ := evV_ok S e1
    split at hr1
    · have := run_pure_some hr1
      simp only [Prod.mk.injEq] at this
      obtain ⟨rfl, rfl⟩ := this
      exact ⟨rfl, .inr ⟨y, _, _, rfl, rfl, rel_int rv⟩⟩
    · simp [run_fail] at hr1

/-- The bounds of a slice expression, where they are met. -/
theorem bounds_run {P : Program} {isS : Bool} {len cap : Nat} {lo hi : Option Operand} {l h : Option Int} (w : World)
    (hl : (lo = none ∧ l = none) ∨ ∃ y k i, lo = some y ∧ l = some i ∧ evc tm y = .int k i) (hh : (hi = none ∧ h = none) ∨ ∃ y k i, hi = some y ∧ h = some i ∧ evc tm y = .int k i)
    (h0 : 0 ≤ l.getD 0) (h1 : l.getD 0 ≤ h.getD len) (h2 : h.getD len ≤ len) (hc : len ≤ cap) :
    (Instr.sliceBounds isS len cap (lo.map (evc tm)) (hi.map (evc tm)) none).run P w = .ok ((l.getD 0).toNat, (h.getD len).toNat, cap) w := by
  rcases hh with ⟨rfl, rfl⟩ | ⟨y, k, i, rfl, rfl, ey⟩ <;> rcases hl with ⟨rfl, rfl⟩ | ⟨y', k', i', rfl, rfl, ey'⟩
  · simp [Instr.sliceBounds]
  · simp only [Option.getD_some, Option.getD_none] at h0 h1
    have : 0 ≤ i' ∧ i' ≤ (len : Int) := ⟨h0, h1⟩
    simp [Instr.sliceBounds, Instr.sliceBound, ey', asIntOf, this]
  · simp only [Option.getD_some, Option.getD_none] at h1 h2
    have h3 : 0 ≤ i ∧ i ≤ (cap : Int) := ⟨h1, by omega⟩
    simp [Instr.sliceBounds, Instr.sliceBound, ey, asIntOf, h3]
  · simp only [Option.getD_some, Option.getD_none] at h0 h1 h2
    have h3 : 0 ≤ i ∧ i ≤ (cap : Int) := ⟨by omega, by omega⟩
    have h4 : 0 ≤ i' ∧ i' ≤ (i.toNat : Int) := ⟨h0, by omega⟩
    simp [Instr.sliceBounds, Instr.sliceBound, ey, ey', asIntOf, h3, h4.1]
    intro hlt; omega

theorem sub_intro {h : Heap} {I : Nat → Prop} {o : Bool} {sz : Nat} {es : List V} {bs : List Nat} {a : Option Addr} {len cap lo hi : Nat}
    (hr : RelV h I (.sl o sz es) (.slice a len cap) bs) (hne : es ≠ [] ∨ o = true) (h1 : lo ≤ hi) (h2 : hi ≤ es.length) :
    subOf lo (hi - lo) (.slice (if cap = lo then a else a.map (·.add (lo * sz))) (hi - lo) (cap - lo)) sz (.slice a len cap) := by
  obtain ⟨a', cap', hc, hle⟩ := slice_len hr
  simp only [Value.slice.injEq] at hc
  obtain ⟨rfl, rfl, rfl⟩ := hc
  refine ⟨_, _, _, _, rfl, rfl, by omega, ?_⟩
  by_cases e : cap = lo
  · exact .inl e
  · right
    rw [if_neg e]
    cases hr with
    | slE => simp at hne
    | slZ => simp at h2; omega
    | sh _ _ b off => exact ⟨b, off, rfl, by simp [add_none]⟩
    | ow _ _ b off => exact ⟨b, off, rfl, by simp [add_none]⟩

theorem slice_ok (S : SH g n E U tm w.heap I fp []) {st0 : Nat} {o : Oper} {t : TypeId} {x : Operand} {lo hi : Option Operand} (ho : o.op = .slice t x lo hi none) (hd : ∀ d, o.dst = some d → d < n) {E' : Env} {u : Unit}
    (hr : (opP C m st0 o).run E = some (u, E')) : Res C.P o tm w (Goal g n E' (more U st0) w) := by
  simp only [opP, ho] at hr
  obtain ⟨b, E1, e1, hr1⟩ := run_bind_some hr
  obtain ⟨rfl, rb, sb, nb⟩ := ev_ok S e1
  obtain ⟨l, E2, e2, hr2⟩ := run_bind_some hr1
  obtain ⟨rfl, hl⟩ := intOpt_ok S e2
  obtain ⟨h, E3, e3, hr3⟩ := run_bind_some hr2
  obtain ⟨rfl, hh⟩ := intOpt_ok S e3
  unfold sliceP at hr3
  obtain ⟨u1, E4, e4, hr4⟩ := run_bind_some hr3
  obtain ⟨h0, rfl⟩ := run_need_some e4
  simp only [decide_eq_true_eq] at h0
  split at hr4
  · rename_i hu
    obtain ⟨v, E5, e5, hr5⟩ := run_bind_some hr4
    obtain ⟨rfl, rv⟩ := readB_ok S rb e5
    split at hr5
    case h_2 => simp [run_fail] at hr5
    rename_i s
    obtain ⟨u2, E6, e6, hr6⟩ := run_bind_some hr5
    obtain ⟨hn, rfl⟩ := run_need_some e6
    simp only [decide_eq_true_eq] at hn
    have hx := rel_str rv
    have hb := bounds_run (P := C.P) (isS := false) (cap := s.size) w hl hh h0 hn.1 hn.2 (Nat.le_refl _)
    refine .value (v := .string (s.extract (l.getD 0).toNat (h.getD s.size).toNat)) ?_ ⟨.refl w, fin_val S hd hr6 (.str _)⟩
    simp only [execOp, ho, Instr.sliceAt, underlying, Sem.run_bind, run_program, Result.andThen_ok, hu, Sem.run_pure, Instr.slice, hx, Option.map_none, Option.isSome_none, Bool.false_eq_true, if_false, hb]
  · rename_i e hu
    obtain ⟨z, E5, e5, hr5⟩ := run_bind_some hr4
    obtain ⟨hz, rfl⟩ := run_opt_some' e5
    simp only at hz
    have hrun : ∀ a len cap, evc tm x = .slice a len cap → l.getD 0 ≤ h.getD len → h.getD len ≤ (len : Int) → len ≤ cap →
        (execOp (evc tm) o).run C.P w = .ok (.value (.slice (if cap = (l.getD 0).toNat then a else a.map (·.add ((l.getD 0).toNat * z))) ((h.getD len).toNat - (l.getD 0).toNat) (cap - (l.getD 0).toNat))) w := by
      intro a len cap hx q1 q2 q3
      have hb := bounds_run (P := C.P) (isS := true) (cap := cap) w hl hh h0 q1 q2 q3
      simp only [execOp, ho, Instr.sliceAt, underlying, Sem.run_bind, run_program, Result.andThen_ok, hu, Sem.run_pure, Instr.slice, hx, Option.map_none, hb, sizeOf_run hz]
    -- a part of what nobody writes
    have hshared : ∀ (o' : Bool) sz es (I2 : Nat → Prop), RelV w.heap I2 (.sl o' sz es) (evc tm x) [] → sz = z → l.getD 0 ≤ h.getD es.length → h.getD es.length ≤ (es.length : Int) →
        ∃ c, (execOp (evc tm) o).run C.P w = .ok (.value c) w ∧
          RelV w.heap I2 (.sl false sz ((es.drop (l.getD 0).toNat).take ((h.getD es.length).toNat - (l.getD 0).toNat))) c [] := by
      intro o' sz es I2 hrel hsz q1 q2
      obtain ⟨a, cap, hc, hle⟩ := slice_len hrel
      rw [hc] at hrel
      refine ⟨_, hrun a _ cap hc q1 q2 hle, ?_⟩
      subst hsz
      by_cases hes : es = []
      · subst hes
        simp only [List.length_nil] at q1 q2
        have e1 : (h.getD (([] : List V).length : Nat)).toNat - (l.getD 0).toNat = 0 := by simp only [List.length_nil]; omega
        simp only [List.drop_nil, List.take_nil]
        rw [e1]; exact .slE _ _ _
      · have ho' : o' = false := by
          cases hrel with
          | sh => rfl
          | slE => rfl
          | slZ => simp at hes
        subst ho'
        have hs := sub_intro (lo := (l.getD 0).toNat) (hi := (h.getD es.length).toNat) hrel (.inl hes) (by omega) (by omega)
        obtain ⟨bs', r1, r2⟩ := RelV.sub hrel hs (by omega)
        have := shared_nil r1 rfl
        subst this; exact r1
    split at hr5
    · rename_i o' sz es
      obtain ⟨u2, E6, e6, hr6⟩ := run_bind_some hr5
      obtain ⟨hn, rfl⟩ := run_need_some e6
      simp only [Bool.and_eq_true, decide_eq_true_eq, beq_iff_eq] at hn
      obtain ⟨c, q1, q2⟩ := hshared o' sz es I rb.2 hn.2 hn.1.1 hn.1.2
      exact .value q1 ⟨.refl w, fin_val S hd hr6 q2⟩
    · rename_i s st ct p
      obtain ⟨y, E6, e6, hr6⟩ := run_bind_some hr5
      obtain ⟨hy, rfl⟩ := run_rdAt_some e6
      obtain ⟨ct', v0, c', h1, h2, h3, h4, h5, h6, pre, bx, post, h7, h8, _⟩ := S.at hy
      have hcc : evc tm x = c' := h6 (fun _ cn => evc tm x = cn) rb.2
      subst hcc
      split at hr6
      case h_2 => simp [run_fail] at hr6
      rename_i o' sz es
      obtain ⟨u2, E7, e7, hr7⟩ := run_bind_some hr6
      obtain ⟨hn, rfl⟩ := run_need_some e7
      simp only [Bool.and_eq_true, decide_eq_true_eq, beq_iff_eq] at hn
      split at hr7
      · rename_i ho'
        subst ho'
        obtain ⟨a, cap, hc, hle⟩ := slice_len h8
        have hs := sub_intro (lo := (l.getD 0).toNat) (hi := (h.getD es.length).toNat) (hc ▸ h8) (.inr rfl) (by omega) (by omega)
        rw [← hc, hn.2] at hs
        refine .value (hrun a _ cap hc hn.1.1 hn.1.2 hle) ⟨.refl w, fin_ref S hd hr7 sb (by intro; simp) ⟨rfl, ?_⟩⟩
        refine valid_intro h1 h3 h5 ?_
        simp only [V.nsz]; rw [hn.2]; exact hs
      · rename_i ho'
        have ho2 : o' = false := by simpa using ho'
        subst ho2
        obtain rfl := shared_nil h8 rfl
        obtain ⟨c, q1, q2⟩ := hshared false sz es I h8 hn.2 hn.1.1 hn.1.2
        exact .value q1 ⟨.refl w, fin_val S hd hr7 q2⟩
    · rename_i s st ct p lo0 nn
      obtain ⟨y, E6, e6, hr6⟩ := run_bind_some hr5
      obtain ⟨hy, rfl⟩ := run_rdAt_some e6
      obtain ⟨ct', v0, c', h1, h2, h3, h4, h5, h6, pre, bx, post, h7, h8, _⟩ := S.at hy
      obtain ⟨a1, len1, cap1, a', q1, q2, q3, q4⟩ := h6 _ rb.2
      split at hr6
      case h_2 => simp [run_fail] at hr6
      rename_i o' sz es
      obtain ⟨u2, E7, e7, hr7⟩ := run_bind_some hr6
      obtain ⟨hn, rfl⟩ := run_need_some e7
      simp only [Bool.and_eq_true, decide_eq_true_eq, beq_iff_eq] at hn
      obtain ⟨⟨⟨n1, n2, n3⟩, n4⟩, n5⟩ := hn
      refine .value (hrun a' _ (cap1 - lo0) q2 n1 n2 (by omega)) ⟨.refl w, fin_ref S hd hr7 sb (by intro; simp) ⟨rfl, ?_⟩⟩
      refine valid_intro h1 h3 h5 ?_
      simp only [V.nsz] at q4 ⊢
      refine ⟨a1, len1, cap1, _, q1, by rw [show cap1 - lo0 - (l.getD 0).toNat = cap1 - (lo0 + (l.getD 0).toNat) from by omega], by omega, ?_⟩
      rcases q4 with q4 | ⟨b, off, q5, q6⟩
      · left; omega
      · by_cases hce : cap1 = lo0 + (l.getD 0).toNat
        · exact .inl hce
        · refine .inr ⟨b, off, q5, ?_⟩
          rw [if_neg (by omega), q6, n4]
          simp only [Option.map_some, add_none]
          rw [Nat.add_mul, Nat.add_assoc]
    · simp [run_fail] at hr5
  · simp [run_fail] at hr4

theorem call_builtin {P : Program} {o : Oper} {c : Call} {b : Builtin} (ho : o.op = .call c) (hc : c.callee = .builtin b) (w : World) :
    (execOp (evc tm) o).run P w = (builtin b c.argTypes o.type (c.args.map fun | .const _ => true | _ => false) (c.args.map (evc tm))).run P w := by
  simp only [execOp, ho, resolve, hc, Sem.run_bind, Sem.run_pure, Result.andThen_ok, invoke]
  rfl

theorem zip1 {c : Call} (hs : c.args.size = c.argTypes.size) {x : Operand} {t : TypeId} (h : c.args.toList.zip c.argTypes.toList = [(x, t)]) : c.args = #[x] ∧ c.argTypes = #[t] := by
  have h1 := congrArg (List.map Prod.fst) h
  have h2 := congrArg (List.map Prod.snd) h
  rw [List.map_fst_zip (by simp [hs])] at h1
  rw [List.map_snd_zip (by simp [hs])] at h2
  exact ⟨by apply Array.ext'; simpa using h1, by apply Array.ext'; simpa using h2⟩

theorem zip2 {c : Call} (hs : c.args.size = c.argTypes.size) {x y : Operand} {t u : TypeId} (h : c.args.toList.zip c.argTypes.toList = [(x, t), (y, u)]) :
    c.args = #[x, y] ∧ c.argTypes = #[t, u] := by
  have h1 := congrArg (List.map Prod.fst) h
  have h2 := congrArg (List.map Prod.snd) h
  rw [List.map_fst_zip (by simp [hs])] at h1
  rw [List.map_snd_zip (by simp [hs])] at h2
  exact ⟨by apply Array.ext'; simpa using h1, by apply Array.ext'; simpa using h2⟩

theorem len_ok (S : SH g n E U tm w.heap I fp []) {st0 : Nat} {o : Oper} {c : Call} {x : Operand} {t : TypeId} (ho : o.op = .call c) (hcb : c.callee = .builtin .len) (ha : c.args = #[x]) (hat : c.argTypes = #[t])
    (hd : ∀ d, o.dst = some d → d < n) {E' : Env} {u : Unit} {b : Bd} (hb : (ev C.P x t).run E = some (b, E)) (hr : (lenP C.P o.dst t b).run E = some (u, E')) :
    Res C.P o tm w (Goal g n E' (more U st0) w) := by
  obtain ⟨_, rb, sb, nb⟩ := ev_ok S hb
  have hcall : ∀ k : Nat, (Builtin.len_ #[t] o.type #[evc tm x]).run C.P w = .ok (.int .i64 k) w → (execOp (evc tm) o).run C.P w = .ok (.value (.int .i64 k)) w := by
    intro k hk
    rw [call_builtin ho hcb, ha, hat]
    simp [builtin, hk]
  unfold lenP at hr
  split at hr
  · rename_i hu
    obtain ⟨v, E5, e5, hr5⟩ := run_bind_some hr
    obtain ⟨rfl, rv⟩ := readB_ok S rb e5
    split at hr5
    case h_2 => simp [run_fail] at hr5
    rename_i s
    exact .value (hcall s.size (by simp [Builtin.len_, underlying, hu, rel_str rv, goInt])) ⟨.refl w, fin_val S hd hr5 (.int _ _)⟩
  · rename_i k e hu
    exact .value (hcall k (by simp [Builtin.len_, underlying, hu, goInt])) ⟨.refl w, fin_val S hd hr (.int _ _)⟩
  · rename_i e hu
    have hlen : ∀ a k cap, evc tm x = .slice a k cap → (Builtin.len_ #[t] o.type #[evc tm x]).run C.P w = .ok (.int .i64 k) w := by
      intro a k cap hx
      simp [Builtin.len_, underlying, hu, hx, goInt]
    split at hr
    · rename_i o' sz es
      obtain ⟨a, cap, hc, _⟩ := slice_len rb.2
      exact .value (hcall _ (hlen a _ cap hc)) ⟨.refl w, fin_val S hd hr (.int _ _)⟩
    · rename_i s st ct p
      obtain ⟨y, E6, e6, hr6⟩ := run_bind_some hr
      obtain ⟨hy, rfl⟩ := run_rdAt_some e6
      obtain ⟨ct', v0, c', h1, h2, h3, h4, h5, h6, pre, bx, post, h7, h8, _⟩ := S.at hy
      have hcc : evc tm x = c' := h6 (fun _ cn => evc tm x = cn) rb.2
      subst hcc
      split at hr6
      case h_2 => simp [run_fail] at hr6
      obtain ⟨a, cap, hc, _⟩ := slice_len h8
      exact .value (hcall _ (hlen a _ cap hc)) ⟨.refl w, fin_val S hd hr6 (.int _ _)⟩
    · rename_i s st ct p lo nn
      obtain ⟨y, E6, e6, hr6⟩ := run_bind_some hr
      obtain ⟨hy, rfl⟩ := run_rdAt_some e6
      obtain ⟨ct', v0, c', h1, h2, h3, h4, h5, h6, _⟩ := S.at hy
      obtain ⟨a1, len1, cap1, a', q1, q2, q3, q4⟩ := h6 _ rb.2
      exact .value (hcall _ (hlen _ _ _ q2)) ⟨.refl w, fin_val S hd hr6 (.int _ _)⟩
    · simp [run_fail] at hr
  · simp [run_fail] at hr

theorem evVs_ok (S : SH g n E U tm w.heap I fp H) : ∀ (xs : List (Operand × TypeId)) {vs : List V} {E' : Env}, (evVs C.P xs).run E = some (vs, E') →
    E = E' ∧ RelL w.heap (zone I fp) vs (xs.map fun x => evc tm x.1) [] := by
  intro xs
  induction xs with
  | nil =>
    intro vs E' hr
    have := run_pure_some hr
    simp only [Prod.mk.injEq] at this
    obtain ⟨rfl, rfl⟩ := this
    exact ⟨rfl, .nil⟩
  | cons x xs ih =>
    intro vs E' hr
    simp only [evVs] at hr
    obtain ⟨v, E1, e1, hr1⟩ := run_bind_some hr
    obtain ⟨rfl, rv⟩ := evV_ok S e1
    obtain ⟨ws, E2, e2, hr2⟩ := run_bind_some hr1
    obtain ⟨rfl, r2⟩ := ih e2
    have := run_pure_some hr2
    simp only [Prod.mk.injEq] at this
    obtain ⟨rfl, rfl⟩ := this
    exact ⟨rfl, .cons _ _ [] _ _ [] rv r2⟩

theorem minmax_run {P : Program} {isMin : Bool} {h : Heap} {I1 I2 : Nat → Prop} (w : World) : ∀ (vs : List V) (cs : List Value) (v r : V) (c : Value), RelV h I1 v c [] → RelL h I2 vs cs [] → vs ≠ [] →
    minmax isMin v vs = some r → ∃ c', (cs.foldlM (if isMin then Builtin.min2 else Builtin.max2) c).run P w = .ok c' w ∧ ∀ (h : Heap) (I : Nat → Prop), RelV h I r c' [] := by
  intro vs
  induction vs with
  | nil => intro cs v r c _ _ hne; exact absurd rfl hne
  | cons x vs ih =>
    intro cs v r c hv hl _ hr
    generalize hbs : ([] : List Nat) = bs at hl
    cases hl with
    | cons _ c1 b1 _ cs b2 h1 h2 =>
    obtain ⟨rfl, rfl⟩ : b1 = [] ∧ b2 = [] := by simpa using hbs.symm
    unfold minmax at hr
    split at hr
    · rename_i hh; simp at hh
    · rename_i k a k' b rr hh
      simp only [List.cons.injEq] at hh
      obtain ⟨rfl, rfl⟩ := hh
      have e1 := rel_int hv
      have e2 := rel_int h1
      subst e1 e2
      have hstep : ((if isMin then Builtin.min2 else Builtin.max2) (.int k a) (.int k' b) : Sem Value) = pure (.int k (if isMin then (if b < a then b else a) else (if b > a then b else a))) := by
        cases isMin <;> rfl
      by_cases hvs : vs = []
      · subst hvs
        generalize hbs2 : ([] : List Nat) = bs2 at h2
        cases h2
        simp only [minmax, Option.some.injEq] at hr
        subst hr
        exact ⟨_, by simp [hstep], fun _ _ => .int _ _⟩
      · obtain ⟨c', g1, g2⟩ := ih cs _ r _ (.int k _) h2 hvs hr
        exact ⟨c', by simp only [List.foldlM_cons, hstep, Sem.run_bind, Sem.run_pure, Result.andThen_ok, g1], g2⟩
    · simp at hr

end

end Go.Lm

namespace Go.Lm

section
variable {C : Ctx} {m : Sem_} {g : Gh} {n : Nat} {U : Nat → Prop} {tm : Array Value} {w : World}

theorem takeParts_ok {P : Program} {st0 : Nat} {tOf : Nat → Option TypeId} : ∀ (parts : List (Nat × Operand)) {E : Env} {I : Nat → Prop} {fp : Nat → List Nat} {H : List Nat}, SH g n E U tm w.heap I fp H →
    ∀ {o : Bool} {vs : List (Nat × V)} {E' : Env}, (takeParts P st0 tOf parts).run E = some ((o, vs), E') →
    ∃ I' fp' bs, SH g n E' U tm w.heap I' fp' (bs ++ H) ∧ (∀ r, I r → I' r) ∧ vs.map (·.1) = parts.map (·.1) ∧
      RelL w.heap I' (vs.map (·.2)) (parts.map fun x => evc tm x.2) bs ∧ (o = false → bs = []) := by
  intro parts
  induction parts with
  | nil =>
    intro E I fp H S o vs E' hr
    have := run_pure_some hr
    simp only [Prod.mk.injEq] at this
    obtain ⟨⟨rfl, rfl⟩, rfl⟩ := this
    exact ⟨I, fp, [], by simpa using S, fun _ h => h, rfl, .nil, fun _ => rfl⟩
  | cons x parts ih =>
    obtain ⟨i, x⟩ := x
    intro E I fp H S o vs E' hr
    simp only [takeParts] at hr
    obtain ⟨t, E1, e1, hr1⟩ := run_bind_some hr
    obtain ⟨ht, rfl⟩ := run_opt_some' e1
    obtain ⟨b, E2, e2, hr2⟩ := run_bind_some hr1
    obtain ⟨rfl, rb, sb, nb⟩ := ev_ok S e2
    obtain ⟨⟨ow, v⟩, E3, e3, hr3⟩ := run_bind_some hr2
    obtain ⟨I1, fp1, bs1, S1, hI1, K1, rv, hw1, _⟩ := takeB_ok S sb rb e3
    obtain ⟨⟨o', vs'⟩, E4, e4, hr4⟩ := run_bind_some hr3
    obtain ⟨I2, fp2, bs2, S2, hI2, hi2, r2, hw2⟩ := ih S1 e4
    have := run_pure_some hr4
    simp only [Prod.mk.injEq] at this
    obtain ⟨⟨rfl, rfl⟩, rfl⟩ := this
    have hnd := S2.hnodup
    refine ⟨I2, fp2, bs1 ++ bs2, S2.sub ?_ ?_, fun r h => hI2 r (hI1 r h), by simp [hi2], .cons _ _ _ _ _ _ (RelV.mono hI2 rv fun _ _ => rfl) r2, ?_⟩
    · have : (bs1 ++ bs2 ++ H).Perm (bs2 ++ (bs1 ++ H)) := by
        rw [← List.append_assoc]; exact List.Perm.append_right _ List.perm_append_comm
      exact this.symm.nodup hnd
    · intro r hr; simp only [List.mem_append] at hr ⊢; rcases hr with (hr | hr) | hr <;> simp [hr]
    · intro h
      simp only [Bool.or_eq_false_iff] at h
      rw [hw1 h.1, hw2 h.2]; rfl

/-- A fold of stores is a splice. -/
theorem fold_splice (off : Nat) : ∀ (vc : List Value) (k : Nat) (cells : Array Value), off + k + vc.length ≤ cells.size →
    ((vc.zipIdx k).foldl (fun cs (x : Value × Nat) => cs.setIfInBounds (off + x.2) x.1) cells).toList = cells.toList.take (off + k) ++ vc ++ cells.toList.drop (off + k + vc.length) := by
  intro vc
  induction vc with
  | nil => intro k cells _; simp
  | cons v vc ih =>
    intro k cells h
    simp only [List.length_cons] at h
    simp only [List.zipIdx_cons, List.foldl_cons]
    rw [ih (k + 1) _ (by simp; omega), Array.toList_setIfInBounds]
    have hle : off + k < cells.toList.length := by simpa using (by omega : off + k < cells.size)
    rw [show off + (k + 1) = off + k + 1 from by omega, List.take_set, List.drop_set, if_pos (by omega)]
    have h2 : (cells.toList.take (off + k + 1)).set (off + k) v = cells.toList.take (off + k) ++ [v] := by
      rw [List.take_succ_eq_append_getElem hle, List.set_append_right _ _ (by simp; omega)]
      simp only [List.length_take, Nat.min_eq_left (Nat.le_of_lt hle), Nat.sub_self, List.set_cons_zero]
    rw [h2]
    simp [show off + k + 1 + vc.length = off + k + (vc.length + 1) from by omega]

theorem fill_ok {h : Heap} {I : Nat → Prop} {place : Nat → Option (Nat × Nat)} : ∀ (vs : List (Nat × V)) (parts : List (Nat × Value)) (cs : List V) (cells : Array Value) (b0 bs : List Nat) {cs' : List V},
    vs.map (·.1) = parts.map (·.1) → RelL h I (vs.map (·.2)) (parts.map (·.2)) bs → RelL h I cs cells.toList b0 → (b0 ++ bs).Nodup → fillV place cs vs = some cs' →
    ∃ cells' b', Instr.fill place cells parts = some cells' ∧ RelL h I cs' cells'.toList b' ∧ b'.Nodup ∧ (∀ r ∈ b', r ∈ b0 ∨ r ∈ bs) ∧ cs'.length = cs.length ∧
      ((∀ x ∈ cells.toList, isC x = true) → ∀ x ∈ cells'.toList, isC x = true) := by
  intro vs
  induction vs with
  | nil =>
    intro parts cs cells b0 bs cs' hi hl hc hnd hf
    have : parts = [] := by simpa using hi.symm
    subst this
    simp only [fillV, Option.some.injEq] at hf
    subst hf
    exact ⟨cells, b0, rfl, hc, hnd.sublist (List.sublist_append_left _ _), fun r hr => .inl hr, rfl, fun h => h⟩
  | cons x vs ih =>
    obtain ⟨i, v⟩ := x
    intro parts cs cells b0 bs cs' hi hl hc hnd hf
    cases parts with
    | nil => simp at hi
    | cons y parts =>
    obtain ⟨j, c⟩ := y
    simp only [List.map_cons, List.cons.injEq] at hi hl
    obtain ⟨rfl, hi⟩ := hi
    simp only [fillV, Option.bind_eq_some_iff] at hf
    obtain ⟨⟨off, k⟩, hp, hf⟩ := hf
    simp only at hf
    split at hf
    case isFalse => simp at hf
    rename_i hcond
    obtain ⟨⟨hvl, hle⟩, hvc⟩ := hcond
    cases hl with
    | cons _ _ b1 _ _ b2 h1 h2 =>
    obtain ⟨hvr, hvi⟩ := cells_rel h1 hvc
    have hlen := hc.length
    have hlen' : cs.length = cells.size := by simpa using hlen
    have hvs : c.cells.size = k := by rw [← Array.length_toList, ← hvr.length, hvl]
    have hfold := fold_splice off c.cells.toList 0 cells (by simp; omega)
    simp only [Nat.add_zero] at hfold
    obtain ⟨pre, bm, post, hbs, _, rpre, rpost⟩ := RelL.take hc off k
    generalize hcl : (c.cells.toList.zipIdx 0).foldl (fun cs (x : Value × Nat) => cs.setIfInBounds (off + x.2) x.1) cells = cells1 at hfold
    have hrel1 : RelL h I (cs.take off ++ v.cells ++ cs.drop (off + k)) cells1.toList (pre ++ b1 ++ post) := by
      rw [hfold, show c.cells.toList.length = k from by simpa using hvs]
      exact RelL.append (RelL.append rpre hvr) rpost
    subst hbs
    have hp1 : (pre ++ bm ++ post ++ (b1 ++ b2)).Perm (bm ++ ((pre ++ b1 ++ post) ++ b2)) := by
      have e1 : (pre ++ bm ++ post ++ (b1 ++ b2)).Perm (bm ++ (pre ++ (post ++ (b1 ++ b2)))) := by
        have := List.Perm.append_right (post ++ (b1 ++ b2)) (List.perm_append_comm (l₁ := pre) (l₂ := bm))
        simpa [List.append_assoc] using this
      refine e1.trans (List.Perm.append_left bm ?_)
      have e2 : (post ++ (b1 ++ b2)).Perm (b1 ++ (post ++ b2)) := by
        have := List.Perm.append_right b2 (List.perm_append_comm (l₁ := post) (l₂ := b1))
        simpa [List.append_assoc] using this
      have := List.Perm.append_left pre e2
      simpa [List.append_assoc] using this
    have hnd1 : ((pre ++ b1 ++ post) ++ b2).Nodup := (hp1.nodup hnd).sublist (List.sublist_append_right _ _)
    obtain ⟨cells', b', q1, q2, q3, q4, q5, q6⟩ := ih parts _ cells1 _ b2 hi h2 hrel1 hnd1 hf
    refine ⟨cells', b', ?_, q2, q3, ?_, ?_, ?_⟩
    · simp only [Instr.fill, hp]
      rw [if_neg (by simp only [hvs, ne_eq, not_true_eq_false, decide_false, Bool.false_or, decide_eq_true_eq, Nat.not_lt]; omega)]
      have : (c.cells.zipIdx.foldl (fun cs (x : Value × Nat) => cs.setIfInBounds (off + x.2) x.1) cells) = cells1 := by
        rw [← hcl, ← Array.foldl_toList]; simp
      rw [← q1]
      exact congrArg (fun z => Instr.fill place z parts) this
    · intro r hr
      rcases q4 r hr with h | h
      · simp only [List.mem_append] at h ⊢
        rcases h with (h | h) | h <;> simp [h]
      · simp [h]
    · rw [q5]; simp only [List.length_append, List.length_take, List.length_drop, hvl]; omega
    · intro hx
      refine q6 fun x hm => ?_
      rw [hfold] at hm
      simp only [List.mem_append] at hm
      rcases hm with (hm | hm) | hm
      · exact hx x (List.mem_of_mem_take hm)
      · exact hvi x hm
      · exact hx x (List.mem_of_mem_drop hm)

theorem mapM_sizes {P : Program} (w : World) : ∀ (fs : List Field), (∀ f ∈ fs, (sizeT P f.type).isSome) →
    (fs.mapM fun f => (do pure (f.offset, ← sizeOf f.type) : Sem (Nat × Nat))).run P w = .ok (fs.map fun f => (f.offset, (sizeT P f.type).getD 0)) w := by
  intro fs
  induction fs with
  | nil => intro _; rfl
  | cons f fs ih =>
    intro h
    obtain ⟨k, hk⟩ := Option.isSome_iff_exists.1 (h f (by simp))
    have := ih fun f' hf => h f' (by simp [hf])
    simp only [List.mapM_cons, Sem.run_bind, sizeOf_run hk, Result.andThen_ok, Sem.run_pure, this, List.map_cons, hk, Option.getD_some]

theorem build_ok {E : Env} {I : Nat → Prop} {fp : Nat → List Nat} (S : SH g n E U tm w.heap I fp []) {st0 : Nat} (hst : ¬ U st0) {o : Oper} {t : TypeId} {parts : Array (Nat × Operand)} (ho : o.op = .build t parts) (hd : ∀ d, o.dst = some d → d < n) {E' : Env} {u : Unit}
    (hr : (opP C m st0 o).run E = some (u, E')) : Res C.P o tm w (Goal g n E' (more U st0) w) := by
  simp only [opP, ho] at hr
  obtain ⟨zv, E1, e1, hr1⟩ := run_bind_some hr
  obtain ⟨hz, rfl⟩ := run_opt_some' e1
  simp only at hz
  obtain ⟨zc, hzc, hzr⟩ := zeroT_ok hz w
  have hparts : (parts.map fun x => (x.1, evc tm x.2)).toList = parts.toList.map fun x => (x.1, evc tm x.2) := by simp
  split at hr1
  · rename_i zs fs hu
    obtain ⟨u1, E2, e2, hr2⟩ := run_bind_some hr1
    obtain ⟨hsz, rfl⟩ := run_need_some e2
    simp only [List.all_eq_true] at hsz
    obtain ⟨⟨ow, vs⟩, E3, e3, hr3⟩ := run_bind_some hr2
    obtain ⟨I1, fp1, bs, S1, hI1, hi, hrel, hw⟩ := takeParts_ok parts.toList S e3
    obtain ⟨cs, E4, e4, hr4⟩ := run_bind_some hr3
    obtain ⟨hf, rfl⟩ := run_opt_some' e4
    simp only at hf
    have hzr1 := hzr w.heap I1
    generalize hnil : ([] : List Nat) = b0 at hzr1
    generalize hzc' : zc = zc' at hzr1
    cases hzr1 with
    | agg _ arr _ hl =>
    subst hnil
    have hbn := S1.hnodup
    rw [List.append_nil] at hbn
    obtain ⟨cells', b', q1, q2, q3, q4, _⟩ := fill_ok vs (parts.toList.map fun x => (x.1, evc tm x.2)) zs arr [] bs (by rw [hi]; simp [Function.comp_def]) (by simpa [Function.comp_def] using hrel) hl (by simpa using hbn) hf
    have hplace : (fun i : Nat => (fs[i]?).bind fun f : Field => (sizeT C.P f.type).map fun k => (f.offset, k)) = fun i => ((fs.toList.map fun f : Field => (f.offset, (sizeT C.P f.type).getD 0)).toArray)[i]? := by
      funext i
      simp only [List.getElem?_toArray, List.getElem?_map, Array.getElem?_toList]
      cases hfi : fs[i]? with
      | none => rfl
      | some f =>
        have hm : f ∈ fs.toList := by
          have := Array.mem_of_getElem? hfi; simpa using this
        obtain ⟨k, hk⟩ := Option.isSome_iff_exists.1 (hsz f hm)
        simp [hk]
    have hrun : (execOp (evc tm) o).run C.P w = .ok (.value (.agg cells')) w := by
      have hmap := mapM_sizes (P := C.P) w fs.toList hsz
      simp only [execOp, ho, Instr.build, Sem.run_bind, hzc, hzc', Result.andThen_ok, underlying, run_program, hu, Sem.run_pure, Value.cells, Array.mapM_eq_mapM_toList, Sem.run_map, hmap, hparts]
      rw [← hplace, q1]
      rfl
    refine .value hrun ⟨.refl w, fin_mk hst (S1.sub (H' := b' ++ []) (by simpa using q3) (fun r hr => by simpa using q4 r (by simpa using hr))) hd hr4 (.agg _ _ _ q2) ?_⟩
    intro hwf
    rw [hw hwf] at q4
    exact List.eq_nil_iff_forall_not_mem.2 fun r hr => by simpa using q4 r hr
  · rename_i zs len e hu
    obtain ⟨k, E2, e2, hr2⟩ := run_bind_some hr1
    obtain ⟨hk, rfl⟩ := run_opt_some' e2
    simp only at hk
    obtain ⟨⟨ow, vs⟩, E3, e3, hr3⟩ := run_bind_some hr2
    obtain ⟨I1, fp1, bs, S1, hI1, hi, hrel, hw⟩ := takeParts_ok parts.toList S e3
    obtain ⟨cs, E4, e4, hr4⟩ := run_bind_some hr3
    obtain ⟨hf, rfl⟩ := run_opt_some' e4
    simp only at hf
    have hzr1 := hzr w.heap I1
    generalize hnil : ([] : List Nat) = b0 at hzr1
    generalize hzc' : zc = zc' at hzr1
    cases hzr1 with
    | agg _ arr _ hl =>
    subst hnil
    have hbn := S1.hnodup
    rw [List.append_nil] at hbn
    obtain ⟨cells', b', q1, q2, q3, q4, _⟩ := fill_ok vs (parts.toList.map fun x => (x.1, evc tm x.2)) zs arr [] bs (by rw [hi]; simp [Function.comp_def]) (by simpa [Function.comp_def] using hrel) hl (by simpa using hbn) hf
    have hrun : (execOp (evc tm) o).run C.P w = .ok (.value (.agg cells')) w := by
      simp only [execOp, ho, Instr.build, Sem.run_bind, hzc, hzc', Result.andThen_ok, underlying, run_program, hu, Sem.run_pure, Value.cells, sizeOf_run hk, hparts, q1]
    refine .value hrun ⟨.refl w, fin_mk hst (S1.sub (H' := b' ++ []) (by simpa using q3) (fun r hr => by simpa using q4 r (by simpa using hr))) hd hr4 (.agg _ _ _ q2) ?_⟩
    intro hwf
    rw [hw hwf] at q4
    exact List.eq_nil_iff_forall_not_mem.2 fun r hr => by simpa using q4 r hr
  · simp [run_fail] at hr1

end

end Go.Lm

namespace Go.Lm

theorem flat_replicate (z : V) : ∀ k, (List.replicate k z).flatMap V.cells = (List.replicate k z.cells).flatten
  | 0 => rfl
  | k + 1 => by simp [List.replicate_succ, flat_replicate z k]

/-- The zero cells of 'k' elements, as the model lists them. -/
theorem zero_cells (zero : Array Value) (hz : 0 < zero.size) : ∀ k, ((Array.range (k * zero.size)).map fun i => zero[i % zero.size]!).toList = (List.replicate k zero.toList).flatten := by
  intro k
  apply List.ext_getElem?
  intro i
  have hlen : (List.replicate k zero.toList).flatten.length = k * zero.size := by simp
  by_cases hi : i < k * zero.size
  · have hmod : i % zero.size < zero.size := Nat.mod_lt _ hz
    have hdiv : i / zero.size < k := by
      rw [Nat.div_lt_iff_lt_mul hz]; exact hi
    have e1 : (List.replicate k zero.toList).flatten[i]? = zero.toList[i % zero.size]? := by
      clear hi hlen
      induction k generalizing i with
      | zero => simp at hdiv
      | succ k ih =>
        rw [List.replicate_succ, List.flatten_cons]
        by_cases hlt : i < zero.size
        · rw [List.getElem?_append_left (by simpa using hlt), Nat.mod_eq_of_lt hlt]
        · rw [List.getElem?_append_right (by simpa using Nat.le_of_not_lt hlt)]
          have hge := Nat.le_of_not_lt hlt
          have := ih (i - zero.size) (Nat.mod_lt _ hz) (by rw [Nat.div_lt_iff_lt_mul hz] at hdiv ⊢; rw [Nat.succ_mul] at hdiv; omega)
          simp only [Array.length_toList]
          rw [this, ← Nat.mod_eq_sub_mod hge]
    rw [e1]
    simp [hi, hmod]
  · rw [List.getElem?_eq_none (by simp; omega), List.getElem?_eq_none (by rw [hlen]; omega)]

theorem RelL.replicate {h : Heap} {I : Nat → Prop} {vs : List V} {cs : List Value} (hr : RelL h I vs cs []) : ∀ k, RelL h I (List.replicate k vs).flatten (List.replicate k cs).flatten []
  | 0 => .nil
  | k + 1 => by
    have := RelL.append hr (RelL.replicate hr k)
    simpa [List.replicate_succ] using this

theorem set_flat {es : List V} {k : Nat} (hz : ∀ e ∈ es, e.cells.length = k) {i : Nat} {v : V} (hi : i < es.length) (hv : v.cells.length = k) :
    (es.set i v).flatMap V.cells = (es.flatMap V.cells).take (i * k) ++ v.cells ++ (es.flatMap V.cells).drop (i * k + k) := by
  obtain ⟨e, he⟩ : ∃ e, es[i]? = some e := ⟨es[i], by simp [hi]⟩
  have hsp := split_at he
  have l1 : ((es.take i).flatMap V.cells).length = i * k := flat_take hz i (by omega)
  have le : e.cells.length = k := hz e (List.mem_of_getElem? he)
  have hfl : es.flatMap V.cells = (es.take i).flatMap V.cells ++ (e.cells ++ (es.drop (i + 1)).flatMap V.cells) := by
    conv => lhs; rw [hsp]
    simp
  rw [set_at v he, hfl, List.take_append_of_le_length (by omega), List.take_of_length_le (l := (es.take i).flatMap V.cells) (by omega)]
  have : (((es.take i).flatMap V.cells) ++ (e.cells ++ (es.drop (i + 1)).flatMap V.cells)).drop (i * k + k) = (es.drop (i + 1)).flatMap V.cells := by
    rw [← List.append_assoc, List.drop_append, List.drop_of_length_le (by simp only [List.length_append]; omega)]
    simp only [List.nil_append, List.length_append]
    rw [show i * k + k - (((es.take i).flatMap V.cells).length + e.cells.length) = 0 from by omega, List.drop_zero]
  rw [this]; simp

theorem fillE_V {k : Nat} : ∀ (vs : List (Nat × V)) (es es' : List V), (∀ e ∈ es, e.cells.length = k) → fillE k es vs = some es' →
    fillV (fun i => some (i * k, k)) (es.flatMap V.cells) vs = some (es'.flatMap V.cells) ∧ es'.length = es.length ∧ ∀ e ∈ es', e.cells.length = k := by
  intro vs
  induction vs with
  | nil => intro es es' hz hf; simp only [fillE, Option.some.injEq] at hf; subst hf; exact ⟨rfl, rfl, hz⟩
  | cons x vs ih =>
    obtain ⟨i, v⟩ := x
    intro es es' hz hf
    simp only [fillE] at hf
    split at hf
    case isFalse => simp at hf
    rename_i hc
    obtain ⟨⟨hv, hi⟩, hcell⟩ := hc
    have hz1 : ∀ e ∈ es.set i v, e.cells.length = k := by
      intro e he
      rcases List.mem_or_eq_of_mem_set he with he | rfl
      · exact hz e he
      · exact hv
    obtain ⟨h1, h2, h3⟩ := ih (es.set i v) es' hz1 hf
    refine ⟨?_, by rw [h2]; simp, h3⟩
    simp only [fillV, Option.bind_some]
    have hle : i * k + k ≤ (es.flatMap V.cells).length := by
      rw [flat_len hz]
      have := Nat.mul_le_mul_right k (show i + 1 ≤ es.length by omega); rw [Nat.succ_mul] at this; exact this
    rw [if_pos ⟨⟨hv, hle⟩, hcell⟩, ← set_flat hz hi hv]; exact h1

/-- A new row of elements. -/
theorem new_row {h : Heap} {I : Nat → Prop} {sz cap : Nat} {es : List V} {cells : Array Value} {bs : List Nat} (el : TypeId) (hr : RelL h I (es.flatMap V.cells) (cells.toList.take (es.length * sz)) bs)
    (hz : ∀ e ∈ es, e.cells.length = sz) (hc : es.length ≤ cap) (hs : cap * sz ≤ cells.size) (hv : ∀ x ∈ cells.toList.take (es.length * sz), isC x = true)
    (hlt : ∀ b, I b ∨ b ∈ bs → b < h.size) : RelV (h.push (.cells cells el)) I (.sl true sz es) (.slice (some ⟨h.size, 0, none⟩) es.length cap) (h.size :: bs) := by
  refine .ow sz es h.size 0 cap cells el (0, 0) bs (by simp) (by intro k _; simp) hc (by omega) hz ?_ ?_
  · rw [List.drop_zero]
    exact RelL.mono (fun _ h => h) hr fun b hb => by rw [Array.getElem?_push, if_neg (by have := hlt b hb; omega)]
  · rw [List.drop_zero]; exact hv

section
variable {C : Ctx} {m : Sem_} {g : Gh} {n : Nat} {U : Nat → Prop} {tm : Array Value} {w : World} {E : Env} {I : Nat → Prop} {fp : Nat → List Nat} {H : List Nat}

theorem elemT_run {P : Program} {t e : TypeId} (h : elemT P t = some e) : P.underlying t = some (.slice e) := by
  unfold elemT at h
  split at h
  · simp only [Option.some.injEq] at h; subst h; assumption
  · simp at h

/-- The zero element, its cells. -/
theorem zero_elem {P : Program} {e : TypeId} {z : V} (hz : zeroT P e = some z) (hc : z.cells.all V.isCell = true) (w : World) :
    ∃ c, (zeroValue e).run P w = .ok c w ∧ (∀ (h : Heap) (I : Nat → Prop), RelL h I z.cells c.cells.toList []) ∧ (∀ x ∈ c.cells.toList, isC x = true) ∧ c.cells.size = z.cells.length := by
  obtain ⟨c, h1, h2⟩ := zeroT_ok hz w
  refine ⟨c, h1, fun h I => (cells_rel (h2 h I) hc).1, (cells_rel (h2 #[] fun _ => False) hc).2, ?_⟩
  have := (cells_rel (h2 #[] fun _ => False) hc).1.length
  simpa using this.symm

theorem buildSlice_ok (S : SH g n E U tm w.heap I fp []) {st0 : Nat} (hst : ¬ U st0) {o : Oper} {t : TypeId} {len : Nat} {parts : Array (Nat × Operand)} (ho : o.op = .buildSlice t len parts) (hd : ∀ d, o.dst = some d → d < n) {E' : Env} {u : Unit}
    (hr : (opP C m st0 o).run E = some (u, E')) : Res C.P o tm w (Goal g n E' (more U st0) w) := by
  simp only [opP, ho] at hr
  obtain ⟨e, E1, e1, hr1⟩ := run_bind_some hr
  obtain ⟨he, rfl⟩ := run_opt_some' e1
  obtain ⟨k, E2, e2, hr2⟩ := run_bind_some hr1
  obtain ⟨hk, rfl⟩ := run_opt_some' e2
  obtain ⟨⟨ow, vs⟩, E3, e3, hr3⟩ := run_bind_some hr2
  obtain ⟨I1, fp1, bs, S1, hI1, hi, hrel, hw⟩ := takeParts_ok parts.toList S e3
  obtain ⟨u1, E4, e4, hr4⟩ := run_bind_some hr3
  obtain ⟨hn, rfl⟩ := run_need_some e4
  obtain ⟨z, E5, e5, hr5⟩ := run_bind_some hr4
  obtain ⟨hz, rfl⟩ := run_opt_some' e5
  obtain ⟨u2, E6, e6, hr6⟩ := run_bind_some hr5
  obtain ⟨hzl, rfl⟩ := run_need_some e6
  obtain ⟨es, E7, e7, hr7⟩ := run_bind_some hr6
  obtain ⟨hes, rfl⟩ := run_opt_some' e7
  obtain ⟨u3, E8, e8, hr8⟩ := run_bind_some hr7
  obtain ⟨hzc, rfl⟩ := run_need_some e8
  simp only [decide_eq_true_eq] at he hk hn hz hzl hes
  have hu := elemT_run he
  obtain ⟨c, c1, c2, c3, c4⟩ := zero_elem hz hzc w
  have hcs : c.cells.size = k := by rw [c4, hzl]
  have hzeros := zero_cells c.cells (by omega) len
  rw [hcs] at hzeros
  -- the cells that are filled
  generalize hZ : ((Array.range (len * k)).map fun i => (if len * k = 0 then (#[] : Array Value) else c.cells)[i % (if len * k = 0 then (#[] : Array Value) else c.cells).size]!) = Z
  have hZl : Z.toList = (List.replicate len c.cells.toList).flatten := by
    rw [← hZ]
    by_cases h0 : len * k = 0
    · have : len = 0 := by
        rcases Nat.mul_eq_zero.1 h0 with h | h
        · exact h
        · omega
      subst this; simp
    · simp only [if_neg h0, hcs]; exact hzeros
  obtain ⟨f1, f2, f3⟩ := fillE_V vs _ es (by intro x hx; rw [List.eq_of_mem_replicate hx]; exact hzl) hes
  rw [flat_replicate] at f1
  have hbn := S1.hnodup
  rw [List.append_nil] at hbn
  have hZr : RelL w.heap I1 (List.replicate len z.cells).flatten Z.toList [] := by rw [hZl]; exact RelL.replicate (c2 _ _) len
  obtain ⟨cells', b', q1, q2, q3, q4, q5, q6⟩ := fill_ok vs (parts.toList.map fun x => (x.1, evc tm x.2)) _ Z [] bs (by rw [hi]; simp [Function.comp_def])
    (by simpa [Function.comp_def] using hrel) hZr (by simpa using hbn) f1
  have hcell : ∀ x ∈ cells'.toList, isC x = true := q6 (by
    rw [hZl]; intro x hx
    obtain ⟨l, hl, hx⟩ := List.mem_flatten.1 hx
    rw [List.eq_of_mem_replicate hl] at hx; exact c3 x hx)
  have hsize : cells'.size = len * k := by
    have := q2.length
    rw [flat_len f3, f2, List.length_replicate] at this
    simpa using this.symm
  have hlen : es.length = len := by rw [f2]; simp
  have hparts : (parts.map fun x => (x.1, evc tm x.2)).toList = parts.toList.map fun x => (x.1, evc tm x.2) := by simp
  have hrun : (execOp (evc tm) o).run C.P w = .ok (.value (.slice (some ⟨w.heap.size, 0, none⟩) len len)) { w with heap := w.heap.push (.cells cells' e) } := by
    have hle : ¬ len * k > 2 ^ 24 := by omega
    by_cases h0 : len * k = 0
    · simp only [if_pos h0] at hZ
      simp only [execOp, ho, Instr.buildSlice, Sem.run_bind, underlying, run_program, hu, Sem.run_pure, Result.andThen_ok, sizeOf_run hk, if_neg hle, if_pos h0, hparts, hZ, q1, newRow, run_newObj]
    · simp only [if_neg h0] at hZ
      simp only [execOp, ho, Instr.buildSlice, Sem.run_bind, underlying, run_program, hu, Sem.run_pure, Result.andThen_ok, sizeOf_run hk, if_neg hle, if_neg h0, c1, hparts, hZ, q1, newRow, run_newObj]
  have S2 := (S1.sub (H' := b') q3 (fun r hr => by simpa using q4 r hr)).alloc (.cells cells' e)
  have htake : cells'.toList.take (es.length * k) = cells'.toList := List.take_of_length_le (by rw [hlen]; simp [hsize])
  have hrow := new_row (I := I1) (cap := len) (es := es) (sz := k) (cells := cells') (bs := b') e (by rw [htake]; exact q2) f3 (by omega) (by omega)
    (by rw [htake]; exact hcell) (fun b hb => by
      rcases hb with hb | hb
      · exact S1.ilt b hb
      · exact S1.hlt b (by simpa using q4 b hb))
  rw [hlen] at hrow
  exact .value hrun ⟨⟨rfl, rfl, rfl⟩, fin_own (bs := w.heap.size :: b') hst (by simpa using S2) hd hr8 hrow⟩

theorem makeSlice_ok (S : SH g n E U tm w.heap I fp []) {st0 : Nat} (hst : ¬ U st0) {o : Oper} {t : TypeId} {l c : Operand} (ho : o.op = .makeSlice t l c) (hd : ∀ d, o.dst = some d → d < n) {E' : Env} {u : Unit}
    (hr : (opP C m st0 o).run E = some (u, E')) : Res C.P o tm w (Goal g n E' (more U st0) w) := by
  simp only [opP, ho] at hr
  obtain ⟨e, E1, e1, hr1⟩ := run_bind_some hr
  obtain ⟨he, rfl⟩ := run_opt_some' e1
  obtain ⟨k, E2, e2, hr2⟩ := run_bind_some hr1
  obtain ⟨hk, rfl⟩ := run_opt_some' e2
  obtain ⟨by_, E3, e3, hr3⟩ := run_bind_some hr2
  obtain ⟨hby, rfl⟩ := run_opt_some' e3
  obtain ⟨z, E4, e4, hr4⟩ := run_bind_some hr3
  obtain ⟨hz, rfl⟩ := run_opt_some' e4
  obtain ⟨vl, E5, e5, hr5⟩ := run_bind_some hr4
  obtain ⟨rfl, rl⟩ := evV_ok S e5
  obtain ⟨vc, E6, e6, hr6⟩ := run_bind_some hr5
  obtain ⟨rfl, rc⟩ := evV_ok S e6
  simp only at he hk hby hz
  split at hr6
  case h_2 => simp [run_fail] at hr6
  rename_i k1 a k2 b
  obtain ⟨u1, E7, e7, hr7⟩ := run_bind_some hr6
  obtain ⟨hn, rfl⟩ := run_need_some e7
  simp only [Bool.and_eq_true, decide_eq_true_eq] at hn
  obtain ⟨⟨⟨ha0, hab, hb1, hb2, hk0, hzl⟩, hzc⟩, _⟩ := hn
  have hu := elemT_run he
  have hl := rel_int rl
  have hc := rel_int rc
  obtain ⟨zc, c1, c2, c3, c4⟩ := zero_elem hz hzc w
  have hcs : zc.cells.size = k := by rw [c4, hzl]
  unfold bytesT at hby
  rw [Option.map_eq_some_iff] at hby
  obtain ⟨info, hinfo, hbyt⟩ := hby
  have hwl : IntKind.i64.wrap a = a := by
    unfold IntKind.wrap; simp [IntKind.bits, IntKind.signed]; omega
  have hwc : IntKind.i64.wrap b = b := by
    unfold IntKind.wrap; simp [IntKind.bits, IntKind.signed]; omega
  generalize hZ : ((Array.range (b.toNat * k)).map fun i => (if b.toNat * k = 0 then (#[] : Array Value) else zc.cells)[i % (if b.toNat * k = 0 then (#[] : Array Value) else zc.cells).size]!) = Z
  have hZl : Z.toList = (List.replicate b.toNat zc.cells.toList).flatten := by
    rw [← hZ]
    by_cases h0 : b.toNat * k = 0
    · have : b.toNat = 0 := by
        rcases Nat.mul_eq_zero.1 h0 with h | h
        · exact h
        · omega
      rw [this]; simp
    · have := zero_cells zc.cells (by omega) b.toNat
      rw [hcs] at this
      simp only [if_neg h0, hcs]; exact this
  have hrun : (execOp (evc tm) o).run C.P w = .ok (.value (.slice (some ⟨w.heap.size, 0, none⟩) a.toNat b.toNat)) { w with heap := w.heap.push (.cells Z e) } := by
    have hbig : ¬ ((info.bytes : Int) * b > 2 ^ 48) := by
      rw [hbyt]
      have : (by_ : Int) * b = b * by_ := Int.mul_comm _ _
      rw [this]; omega
    have htl : (decide (b < 0) || decide ((info.bytes : Int) * b > 2 ^ 48)) = false := by
      simp only [Bool.or_eq_false_iff, decide_eq_false_iff_not]; exact ⟨by omega, hbig⟩
    have hcond : ((decide (b < 0) || decide ((info.bytes : Int) * b > 2 ^ 48)) || decide (a < 0) || decide (a > b)) = false := by
      simp only [htl, Bool.false_or, Bool.or_eq_false_iff, decide_eq_false_iff_not]; exact ⟨by omega, by omega⟩
    by_cases h0 : b.toNat * k = 0
    · simp only [if_pos h0] at hZ
      simp only [execOp, ho, Instr.makeSlice, Sem.run_bind, underlying, run_program, hu, Sem.run_pure, Result.andThen_ok, hl, hc, asInt, asIntOf, typeInfo, hinfo, hwl, hwc, hcond, Bool.false_eq_true, if_false, run_askRoom, sizeOf_run hk, if_pos h0, newRow, run_newObj, hZ]
    · simp only [if_neg h0] at hZ
      simp only [execOp, ho, Instr.makeSlice, Sem.run_bind, underlying, run_program, hu, Sem.run_pure, Result.andThen_ok, hl, hc, asInt, asIntOf, typeInfo, hinfo, hwl, hwc, hcond, Bool.false_eq_true, if_false, run_askRoom, sizeOf_run hk, if_neg h0, c1, newRow, run_newObj, hZ]
  have hlen : (List.replicate a.toNat z).length = a.toNat := by simp
  have hmul : a.toNat * k ≤ b.toNat * k := Nat.mul_le_mul_right k (by omega)
  have hsize : Z.size = b.toNat * k := by rw [← hZ]; simp
  have htake : Z.toList.take (a.toNat * k) = (List.replicate a.toNat zc.cells.toList).flatten := by
    rw [hZl, show b.toNat = a.toNat + (b.toNat - a.toNat) from by omega, ← List.replicate_append_replicate, List.flatten_append, List.take_append_of_le_length (by simp [hcs]), List.take_of_length_le (by simp [hcs])]
  have hrow := new_row (h := w.heap) (I := I) (cap := b.toNat) (es := List.replicate a.toNat z) (sz := k) (cells := Z) (bs := []) e
    (by rw [hlen, htake, flat_replicate]; exact RelL.replicate (c2 _ _) _)
    (by intro x hx; rw [List.eq_of_mem_replicate hx]; exact hzl) (by rw [hlen]; omega) (by omega)
    (by
      rw [hlen, htake]; intro x hx
      obtain ⟨l', hl', hx⟩ := List.mem_flatten.1 hx
      rw [List.eq_of_mem_replicate hl'] at hx; exact c3 x hx)
    (fun b hb => S.ilt b (by simpa using hb))
  rw [hlen] at hrow
  exact .value hrun ⟨⟨rfl, rfl, rfl⟩, fin_own (bs := [w.heap.size]) hst (by simpa using S.alloc _) hd hr7 hrow⟩

theorem leaf_bytes {h : Heap} {I : Nat → Prop} : ∀ {es : List V} {cs : List Value} {bs : List UInt8}, RelL h I (es.flatMap V.cells) cs [] → Lm.bytesOf es = some bs →
    ∃ ns : List Int, cs = ns.map (Value.int .u8) ∧ bs = ns.map fun n => UInt8.ofNat n.toNat
  | [], cs, bs, hr, hb => by
    simp only [List.flatMap_nil] at hr
    cases hr
    simp only [Lm.bytesOf, Option.some.injEq] at hb
    exact ⟨[], rfl, hb.symm⟩
  | e :: es, cs, bs, hr, hb => by
    unfold Lm.bytesOf at hb
    split at hb
    · rename_i h0; simp at h0
    · rename_i n r h0
      simp only [List.cons.injEq] at h0
      obtain ⟨rfl, rfl⟩ := h0
      rw [Option.map_eq_some_iff] at hb
      obtain ⟨bs', hb', rfl⟩ := hb
      simp only [List.flatMap_cons, V.cells, List.singleton_append] at hr
      generalize hnil : ([] : List Nat) = b0 at hr
      cases hr with
      | cons _ c b1 _ cs b2 h1 h2 =>
      obtain ⟨rfl, rfl⟩ : b1 = [] ∧ b2 = [] := by simpa using hnil.symm
      have := rel_int h1
      subst this
      obtain ⟨ns, rfl, rfl⟩ := leaf_bytes h2 hb'
      exact ⟨n :: ns, rfl, rfl⟩
    · simp at hb

/-- The cells of a slice, read as they lie. -/
theorem firstCells_run {P : Program} {o : Bool} {sz size : Nat} {es : List V} {c : Value} {bs : List Nat} (hr : RelV w.heap I (.sl o sz es) c bs) (hz : sz = size ∨ es = []) :
    ∃ a cap cs bs', c = .slice a es.length cap ∧ es.length ≤ cap ∧ (∀ w' : World, w'.heap = w.heap → (Builtin.firstCells size es.length c).run P w' = .ok cs w') ∧ RelL w.heap I (es.flatMap V.cells) cs.toList bs' ∧ bs'.Sublist bs ∧
      (∀ x ∈ cs, isC x = true) ∧ (o = false → bs' = []) ∧ (∀ e ∈ es, e.cells.length = size) := by
  cases hr with
  | slE _ a cap => exact ⟨a, cap, #[], [], rfl, by simp, fun w' _ => by cases a <;> simp [Builtin.firstCells, loadCells, loadCellsFrom], by simpa using .nil, by simp, by simp, fun _ => rfl, by simp⟩
  | slZ _ _ a => exact ⟨a, 0, #[], [], rfl, by simp, fun w' _ => by cases a <;> simp [Builtin.firstCells, loadCells, loadCellsFrom], by simpa using .nil, by simp, by simp, fun _ => rfl, by simp⟩
  | sh _ _ b off cap cs el fr hb hh hc hs hz' hl hv =>
    have hsz : es.length * size = es.length * sz := by
      rcases hz with rfl | rfl
      · rfl
      · simp
    refine ⟨_, cap, ((cs.toList.drop off).take (es.length * sz)).toArray, [], rfl, hc, ?_, by simpa using hl, by simp, by simpa using hv, fun _ => rfl, ?_⟩
    · intro w' hw'; simp only [Builtin.firstCells, hsz]; exact loadCells_run (by rw [hw']; exact hh) _ (by omega)
    · rcases hz with rfl | rfl
      · exact hz'
      · simp
  | ow _ _ b off cap cs el fr bs hh hf hc hs hz' hl hv =>
    have hsz : es.length * size = es.length * sz := by
      rcases hz with rfl | rfl
      · rfl
      · simp
    have := Nat.mul_le_mul_right sz hc
    refine ⟨_, cap, ((cs.toList.drop off).take (es.length * sz)).toArray, bs, rfl, hc, ?_, by simpa using hl, List.sublist_cons_self _ _, by simpa using hv, by simp, ?_⟩
    · intro w' hw'; simp only [Builtin.firstCells, hsz]; exact loadCells_run (by rw [hw']; exact hh) _ (by omega)
    · rcases hz with rfl | rfl
      · exact hz'
      · simp

theorem foldl_push : ∀ (ns : List Int), ns.foldl (fun r n => r.push (UInt8.ofNat n.toNat)) ByteArray.empty = ⟨(ns.map fun n => UInt8.ofNat n.toNat).toArray⟩ := by
  have key : ∀ (ns : List Int) (s : ByteArray), ns.foldl (fun r n => r.push (UInt8.ofNat n.toNat)) s = ⟨s.data ++ (ns.map fun n => UInt8.ofNat n.toNat).toArray⟩ := by
    intro ns
    induction ns with
    | nil => intro s; simp
    | cons n ns ih =>
      intro s
      simp only [List.foldl_cons, ih, List.map_cons]
      congr 1
      simp [ByteArray.push]
  intro ns
  rw [key]; congr 1
  show ((#[] : Array UInt8) ++ _) = _
  simp

theorem conv_ok (S : SH g n E U tm w.heap I fp []) {st0 : Nat} (hst : ¬ U st0) {o : Oper} {src to : TypeId} {x : Operand} (ho : o.op = .convert src to x) (hd : ∀ d, o.dst = some d → d < n) {E' : Env} {u : Unit}
    (hr : (opP C m st0 o).run E = some (u, E')) : Res C.P o tm w (Goal g n E' (more U st0) w) := by
  simp only [opP, ho] at hr
  unfold convP at hr
  obtain ⟨v, E1, e1, hr1⟩ := run_bind_some hr
  obtain ⟨rfl, rv⟩ := evV_ok S e1
  have hcv : ∀ c w', (convert src to (evc tm x)).run C.P w = .ok c w' → (execOp (evc tm) o).run C.P w = .ok (.value c) w' := by
    intro c w' h; simp [execOp, ho, h]
  split at hr1
  · rename_i d k k' n0 hsrc hto
    have hx := rel_int rv
    refine .value (hcv (.int k (k.wrap n0)) w ?_) ⟨.refl w, fin_val S hd hr1 (.int _ _)⟩
    simp only [convert, underlying, Sem.run_bind, run_program, Result.andThen_ok, hsrc, hto, Sem.run_pure, hx]
    try (cases d <;> rfl)
  · rename_i d s hsrc hto
    have hx := rel_str rv
    refine .value (hcv (.string s) w ?_) ⟨.refl w, fin_val S hd hr1 (.str _)⟩
    simp only [convert, underlying, Sem.run_bind, run_program, Result.andThen_ok, hsrc, hto, Sem.run_pure, hx]
    try (cases d <;> rfl)
  · rename_i e o' sz es hsrc hto
    split at hr1
    case h_2 => simp [run_fail] at hr1
    rename_i hue
    obtain ⟨bs, E2, e2, hr2⟩ := run_bind_some hr1
    obtain ⟨hb, rfl⟩ := run_opt_some' e2
    simp only at hb
    have hone : ∀ x ∈ es, x.cells.length = 1 := by
      have : ∀ (l : List V) (r : List UInt8), Lm.bytesOf l = some r → ∀ x ∈ l, x.cells.length = 1 := by
        intro l
        induction l with
        | nil => intro r _ x hx; simp at hx
        | cons y l ih =>
          intro r hr x hx
          unfold Lm.bytesOf at hr
          split at hr
          · rename_i h0; simp at h0
          · rename_i n r' h0
            simp only [List.cons.injEq] at h0
            obtain ⟨rfl, rfl⟩ := h0
            rw [Option.map_eq_some_iff] at hr
            obtain ⟨r2, hr2, _⟩ := hr
            rcases List.mem_cons.1 hx with rfl | hx
            · rfl
            · exact ih r2 hr2 x hx
          · simp at hr
      exact this es bs hb
    have hz : sz = 1 ∨ es = [] := by
      by_cases hes : es = []
      · exact .inr hes
      · left
        obtain ⟨y, hy⟩ := List.exists_mem_of_ne_nil es hes
        have h1 := hone y hy
        have rv' := rv
        generalize evc tm x = cx at rv'
        cases rv' with
        | slE => simp at hes
        | slZ => simp at hes
        | sh _ _ _ _ _ _ _ _ _ _ _ _ hz' => rw [← hz' y hy, h1]
    obtain ⟨a, cap, cs, bs', f1, f2, f3, f4, f5, _⟩ := firstCells_run (P := C.P) (size := 1) rv hz
    obtain rfl : bs' = [] := by simpa using f5
    obtain ⟨ns, hns, hbs⟩ := leaf_bytes f4 hb
    refine .value (hcv (.string ⟨bs.toArray⟩) w ?_) ⟨.refl w, fin_val S hd hr2 (.str _)⟩
    have f3 := f3 w rfl
    rw [f1] at f3 ⊢
    have hcv2 : (Conv.bytesToString (.slice a es.length cap)).run C.P w = .ok (.string ⟨bs.toArray⟩) w := by
      cases a with
      | none =>
        simp only [Builtin.firstCells, Sem.run_pure, Result.ok.injEq, and_true] at f3
        subst f3
        have : ns = [] := by simpa using hns.symm
        subst this
        subst hbs
        rfl
      | some ad =>
        simp only [Builtin.firstCells, Nat.mul_one] at f3
        have hcs : cs = (ns.map (Value.int .u8)).toArray := by apply Array.ext'; simpa using hns
        rw [hcs] at f3
        rw [run_bytesToString w ad es.length cap ns f3, foldl_push]
        congr 2
        subst hbs
        rfl
    simp only [convert, underlying, Sem.run_bind, run_program, Result.andThen_ok, hsrc, hto, Sem.run_pure, hue, hcv2]
  · rename_i d e s hsrc hto
    split at hr1
    case h_2 => simp [run_fail] at hr1
    rename_i hue
    have hx := rel_str rv
    obtain ⟨u1, E2, e2, hr2⟩ := run_bind_some hr1
    obtain ⟨hn, rfl⟩ := run_need_some e2
    simp only [decide_eq_true_eq] at hn
    have hrun := Lib.run_convert_string_bytes (P := C.P) w src to e s hsrc hto hue
    rw [← hx] at hrun
    have hcap : s.size ≤ grownCap w s.size 0 e := by
      unfold grownCap Question.cut; simp
    have hcells : (Lib.bytesCells w e s).toList.take (s.size * 1) = s.data.toList.map fun b => Value.int .u8 b.toNat := by
      simp only [Lib.bytesCells, Array.toList_append, Array.toList_map, Nat.mul_one]
      rw [List.take_append_of_le_length (by simp), List.take_of_length_le (by simp)]
    have hsize : (Lib.bytesCells w e s).size = grownCap w s.size 0 e := by
      simp only [Lib.bytesCells, Array.size_append, Array.size_map, Array.size_replicate]
      have : s.data.size = s.size := rfl
      omega
    have hlen : (s.data.toList.map fun b => V.int .u8 b.toNat).length = s.size := by simp
    have hold : ∀ r, r < w.heap.size → (Lib.bytesWorld w e s).heap[r]? = w.heap[r]? := fun r hr => Lib.bytesWorld_at_old w e s r hr
    have hrel : ∀ l : List UInt8, RelL (Lib.bytesWorld w e s).heap I ((l.map fun b => V.int .u8 b.toNat).flatMap V.cells) (l.map fun b => Value.int .u8 b.toNat) [] := by
      intro l
      induction l with
      | nil => exact .nil
      | cons b l ih => simpa [V.cells] using RelL.cons _ _ [] _ _ [] (.int .u8 b.toNat) ih
    have S1 := S.alloc (Obj.cells (Lib.bytesCells w e s) e ((Lib.bytesCells w e s).size, (Lib.bytesCells w e s).size + 1))
    have hheap : (Lib.bytesWorld w e s).heap = w.heap.push (Obj.cells (Lib.bytesCells w e s) e ((Lib.bytesCells w e s).size, (Lib.bytesCells w e s).size + 1)) := by
      apply Array.ext_getElem?
      intro r
      rw [Array.getElem?_push]
      by_cases hr : r < w.heap.size
      · rw [if_neg (by omega), hold r hr]
      · by_cases he : r = w.heap.size
        · rw [if_pos he, he, Lib.bytesWorld_at_new]
        · rw [if_neg he, Array.getElem?_eq_none (by rw [Lib.bytesWorld_size]; omega), Array.getElem?_eq_none (by omega)]
    rw [← hheap] at S1
    have hrow : RelV (Lib.bytesWorld w e s).heap I (.sl true 1 (s.data.toList.map fun b => .int .u8 b.toNat)) (.slice (some ⟨w.heap.size, 0, none⟩) s.size (grownCap w s.size 0 e)) [w.heap.size] := by
      rw [← hlen]
      refine .ow 1 _ w.heap.size 0 _ (Lib.bytesCells w e s) e ((Lib.bytesCells w e s).size, (Lib.bytesCells w e s).size + 1) [] (Lib.bytesWorld_at_new w e s) ?_ (by rw [hlen]; exact hcap) (by rw [hlen, hsize]; omega) ?_ ?_ ?_
      · intro k hk; simp only [Bool.and_eq_false_iff, decide_eq_false_iff_not]; left; omega
      · intro x hx; obtain ⟨b, _, rfl⟩ := List.mem_map.1 hx; rfl
      · rw [List.drop_zero, hlen, hcells]; exact hrel _
      · rw [List.drop_zero, hlen, hcells]; intro x hx; obtain ⟨b, _, rfl⟩ := List.mem_map.1 hx; rfl
    exact .value (hcv _ _ hrun) ⟨⟨rfl, rfl, rfl⟩, fin_own (bs := [w.heap.size]) hst (by simpa using S1) hd hr2 hrow⟩
  · simp [run_fail] at hr1

end

end Go.Lm

namespace Go.Lm

section
variable {C : Ctx} {m : Sem_} {g : Gh} {n : Nat} {U : Nat → Prop} {tm : Array Value} {w : World} {E : Env} {I : Nat → Prop} {fp : Nat → List Nat} {H : List Nat}

/-- What is in hand is written. -/
theorem SH.write {h h' : Heap} (S : SH g n E U tm h I fp H) (hk : ∀ r, r ∉ H → h'[r]? = h[r]?) (hsz : h'.size = h.size) : SH g n E U tm h' I fp H := by
  have hIk : ∀ r, I r → h'[r]? = h[r]? := fun r hr => hk r fun hm => S.hnotI r hm hr
  have hfk : ∀ s r, r ∈ fp s → h'[r]? = h[r]? := fun s r hr => hk r fun hm => S.hdisj r hm s hr
  have hV : ∀ s' st' ct0 p Q, U st' → U ct0 → Valid E h tm s' st' ct0 p Q → Valid E h' tm s' st' ct0 p Q := by
    intro s' st' ct0 p Q _ _ hv
    refine hv.heap (bs := fp s') (I := I) (fun st'' ct'' v'' e'' => S.own e'') ?_
    intro r hr
    rcases hr with hr | hr
    · exact hIk r hr
    · exact hfk s' r hr
  exact { size := S.size, slot := fun s hs => RelB.map (fun _ h => h) (fun r hr => by rcases hr with hr | hr; exact hIk r hr; exact hfk s r hr) hV (S.stamp s hs) (S.slot s hs),
          stamp := S.stamp, far := S.far, out := S.out, disj := S.disj, nodup := S.nodup, notI := S.notI, lt := fun s r hr => by rw [hsz]; exact S.lt s r hr, base := S.base,
          hnodup := S.hnodup, hnotI := S.hnotI, hdisj := S.hdisj, hlt := fun r hr => by rw [hsz]; exact S.hlt r hr, hbase := S.hbase, ilt := fun r hr => by rw [hsz]; exact S.ilt r hr,
          i0 := S.i0, ibase := S.ibase, grow := by rw [hsz]; exact S.grow,
          frame := fun r hr hb => by
            by_cases hm : r ∈ H
            · rcases S.hbase r hm with h1 | h1
              · exact absurd h1 hb
              · omega
            · rw [hk r hm]; exact S.frame r hr hb }

theorem leaves_solid {h : Heap} {I I' : Nat → Prop} {es : List V} {cs : List Value} (hr : RelL h I (es.flatMap V.cells) cs []) (hl : leaves es = true) : RelL h I' (es.flatMap V.cells) cs [] := by
  refine RelL.solid hr rfl ?_
  have : ∀ l : List V, (∀ x ∈ l, x.isLeaf = true) → V.solid.solidL l = true := by
    intro l
    induction l with
    | nil => intro _; rfl
    | cons x l ih =>
      intro h
      simp only [V.solid.solidL, Bool.and_eq_true]
      refine ⟨?_, ih fun y hy => h y (by simp [hy])⟩
      have := h x (by simp)
      cases x <;> simp_all [V.isLeaf, V.solid]
  refine this _ fun x hx => ?_
  obtain ⟨e, he, hx⟩ := List.mem_flatMap.1 hx
  exact List.all_eq_true.1 (List.all_eq_true.1 hl e he) x hx

theorem sl_any {h : Heap} {I : Nat → Prop} {o : Bool} {sz : Nat} {es : List V} {c : Value} {bs : List Nat} (hr : RelV h I (.sl o sz es) c bs) (hb : bs = []) (hl : leaves es = true) (I' : Nat → Prop) :
    es = [] ∨ o = false := by
  cases hr with
  | slE => exact .inr rfl
  | slZ => exact .inl rfl
  | sh => exact .inr rfl
  | ow => simp at hb

/-- The elements that are appended: where they come from, they are read whole. -/
theorem appended_ok (S : SH g n E U tm w.heap I fp H) {P : Program} {e : TypeId} {b : Bd} {c : Value} (hst : b.stamps U) (hb : RelB E w.heap tm I [] b c) {z sz1 : Nat} {xs : List V} {E' : Env}
    (hr : (appended P e b).run E = some ((sz1, xs), E')) (hz : sz1 = z ∨ xs = []) :
    ∃ I' fp' bs cap a cs, SH g n E' U tm w.heap I' fp' (bs ++ H) ∧ (∀ r, I r → I' r) ∧ c = .slice a xs.length cap ∧ (∀ w' : World, w'.heap = w.heap → (Builtin.firstCells z xs.length c).run P w' = .ok cs w') ∧
      RelL w.heap I' (xs.flatMap V.cells) cs.toList bs ∧ (∀ x ∈ cs, isC x = true) ∧ (∀ e ∈ xs, e.cells.length = z) := by
  unfold appended at hr
  split at hr
  · obtain ⟨v, E1, e1, hr1⟩ := run_bind_some hr
    obtain ⟨rfl, rv⟩ := readB_ok S hb e1
    split at hr1
    case h_2 => simp [run_fail] at hr1
    rename_i o sz es
    obtain ⟨u1, E2, e2, hr2⟩ := run_bind_some hr1
    obtain ⟨hl, rfl⟩ := run_need_some e2
    have := run_pure_some hr2
    simp only [Prod.mk.injEq] at this
    obtain ⟨⟨rfl, rfl⟩, rfl⟩ := this
    obtain ⟨a, cap, cs, bs', f1, f2, f3, f4, f5, f6, f7, f8⟩ := firstCells_run (P := P) (size := z) rv hz
    obtain rfl : bs' = [] := by simpa using f5
    exact ⟨I, fp, [], cap, a, cs, by simpa using S, fun _ h => h, f1, f3, leaves_solid f4 hl, f6, f8⟩
  · obtain ⟨⟨ow, v⟩, E1, e1, hr1⟩ := run_bind_some hr
    obtain ⟨I1, fp1, bs, S1, hI1, K1, rv, hw, _⟩ := takeB_ok S hst hb e1
    split at hr1
    case h_2 => simp [run_fail] at hr1
    rename_i o sz es heq
    have := run_pure_some hr1
    simp only [Prod.mk.injEq] at this
    obtain ⟨⟨rfl, rfl⟩, rfl⟩ := this
    simp only [Prod.mk.injEq] at heq
    obtain ⟨rfl, rfl⟩ := heq
    obtain ⟨a, cap, cs, bs', f1, f2, f3, f4, f5, f6, f7, f8⟩ := firstCells_run (P := P) (size := z) rv hz
    exact ⟨I1, fp1, bs', cap, a, cs, S1.drop (f5.append_right H), hI1, f1, f3, f4, f6, f8⟩

theorem zeroCells_toList (zero : Array Value) (k : Nat) : (Builtin.zeroCells zero k).toList.length = k * zero.size := by
  simp [Builtin.zeroCells]

theorem append_ok (S : SH g n E U tm w.heap I fp []) {st0 : Nat} (hst : ¬ U st0) {o : Oper} {c : Call} {x y : Operand} {t0 t1 : TypeId} (ho : o.op = .call c) (hcb : c.callee = .builtin .append) (ha : c.args = #[x, y]) (hat : c.argTypes = #[t0, t1])
    (hd : ∀ d, o.dst = some d → d < n) {E' : Env} {u : Unit} {ba bb : Bd} (hba : (ev C.P x t0).run E = some (ba, E)) (hbb : (ev C.P y t1).run E = some (bb, E))
    (hr : (appendP C.P st0 o.dst t0 t1 ba bb).run E = some (u, E')) : Res C.P o tm w (Goal g n E' (more U st0) w) := by
  obtain ⟨_, ra, sa, na⟩ := ev_ok S hba
  obtain ⟨_, rb, sb, nb⟩ := ev_ok S hbb
  unfold appendP at hr
  obtain ⟨e, E1, e1, hr1⟩ := run_bind_some hr
  obtain ⟨he, rfl⟩ := run_opt_some' e1
  obtain ⟨ex, E2, e2, hr2⟩ := run_bind_some hr1
  obtain ⟨he1, rfl⟩ := run_opt_some' e2
  obtain ⟨z, E3, e3, hr3⟩ := run_bind_some hr2
  obtain ⟨hz, rfl⟩ := run_opt_some' e3
  obtain ⟨z1, E4, e4, hr4⟩ := run_bind_some hr3
  obtain ⟨hz1, rfl⟩ := run_opt_some' e4
  obtain ⟨by_, E5, e5, hr5⟩ := run_bind_some hr4
  obtain ⟨hby, rfl⟩ := run_opt_some' e5
  obtain ⟨z0, E6, e6, hr6⟩ := run_bind_some hr5
  obtain ⟨hz0, rfl⟩ := run_opt_some' e6
  obtain ⟨u1, E7, e7, hr7⟩ := run_bind_some hr6
  obtain ⟨hzn, rfl⟩ := run_need_some e7
  obtain ⟨⟨ow, v⟩, E8, e8, hr8⟩ := run_bind_some hr7
  obtain ⟨I1, fp1, bs1, S1, hI1, K1, rv, hw, _⟩ := takeB_ok S sa ra e8
  simp only [Bool.and_eq_true, decide_eq_true_eq] at he he1 hz hz1 hby hz0 hzn
  obtain ⟨⟨hzl, hzp⟩, hzc⟩ := hzn
  split at hr8
  case h_2 => simp [run_fail] at hr8
  rename_i ow' sz es heq
  simp only [Prod.mk.injEq] at heq
  obtain ⟨rfl, rfl⟩ := heq
  obtain ⟨⟨sz1, xs⟩, E9, e9, hr9⟩ := run_bind_some hr8
  obtain ⟨u2, E10, e10, hr10⟩ := run_bind_some hr9
  obtain ⟨hn1, rfl⟩ := run_need_some e10
  obtain ⟨u3, E11, e11, hr11⟩ := run_bind_some hr10
  obtain ⟨hn2, rfl⟩ := run_need_some e11
  simp only [Bool.and_eq_true, Bool.or_eq_true, beq_iff_eq, decide_eq_true_eq, List.isEmpty_iff] at hn1 hn2
  obtain ⟨⟨hsz, hsz1⟩, _⟩ := hn1
  subst hsz
  obtain ⟨I2, fp2, bs2, cap2, a2, new, S2, hI2, hcy, hnew, rnew, inew, znew⟩ := appended_ok S1 sb (K1 _ _ sb nb rb) e9 hsz1
  have rv2 : RelV w.heap I2 (.sl true sz es) (evc tm x) bs1 := RelV.mono hI2 rv fun _ _ => rfl
  have hu0 := elemT_run he
  have hu1 := elemT_run he1
  obtain ⟨a, cap, hcx, hle⟩ := slice_len rv2
  have hx0 : (bs2 ++ (bs1 ++ [])).Nodup := S2.hnodup
  rw [List.append_nil] at hx0
  unfold bytesT at hby
  rw [Option.map_eq_some_iff] at hby
  obtain ⟨info, hinfo, hbyt⟩ := hby
  have hnewlen : new.size = xs.length * sz := by
    have := rnew.length
    rw [flat_len znew] at this; simpa using this.symm
  have hcall : ∀ r w', (Builtin.append_ #[t0, t1] o.type #[evc tm x, evc tm y]).run C.P w = .ok r w' → (execOp (evc tm) o).run C.P w = .ok (.value r) w' := by
    intro r w' h
    rw [call_builtin ho hcb, ha, hat]
    simp [builtin, h]
  have hunf : (Builtin.append_ #[t0, t1] o.type #[evc tm x, evc tm y]).run C.P w =
      (if es.length + xs.length ≤ cap then (do
          let new ← Builtin.firstCells sz xs.length (evc tm y)
          if let some a := a then storeCells (a.add (es.length * sz)) new.toList
          pure (.slice a (es.length + xs.length) cap) : Sem Value)
        else (do
          let newCap ← choose (.appendCap (es.length + xs.length) cap e)
          askRoom (newCap * info.bytes)
          let old ← Builtin.firstCells sz es.length (evc tm x)
          let new ← Builtin.firstCells sz xs.length (evc tm y)
          let rest := Builtin.zeroCells (← zeroValue e).cells (newCap - (es.length + xs.length))
          pure (.slice (some (← newRow e (old ++ new ++ rest))) (es.length + xs.length) newCap) : Sem Value)).run C.P w := by
    by_cases hc : es.length + xs.length ≤ cap
    · simp only [Builtin.append_, List.getElem?_toArray, List.getElem?_cons_zero, List.getElem?_cons_succ, Sem.run_bind, underlying, run_program, hu0, hu1, Sem.run_pure, Result.andThen_ok, hcx, sizeOf_run hz,
        hcy, Builtin.lenOf, if_pos hc, Bool.false_eq_true, if_false, Bool.not_false, if_true]
      rfl
    · have hcap : cap < es.length + xs.length := by omega
      have hb1 : ¬ (Builtin.nextslicecap (es.length + xs.length) cap * info.bytes > 2 ^ 48) := by
        have h1 := nextslicecap_le hcap
        have h2 := Nat.mul_le_mul_right info.bytes h1
        rw [hbyt] at h2 ⊢
        have h3 : 2 * (es.length + xs.length) * by_ = 2 * ((es.length + xs.length) * by_) := by rw [Nat.mul_assoc]
        omega
      have hb2 : ¬ (((es.length + xs.length : Nat) : Int) > IntKind.i64.max ∧ (False ∨ info.bytes = 0)) := by
        rintro ⟨h1, h2⟩
        rcases h2 with h2 | h2
        · exact h2
        · omega
      simp only [Builtin.append_, List.getElem?_toArray, List.getElem?_cons_zero, List.getElem?_cons_succ, Sem.run_bind, underlying, run_program, hu0, hu1, Sem.run_pure, Result.andThen_ok, hcx, sizeOf_run hz,
        hcy, Builtin.lenOf, if_neg hc, Bool.false_eq_true, if_false, Bool.not_false, if_true, typeInfo, hinfo, if_neg hb1, if_neg hb2]
  have hlen : (es ++ xs).length = es.length + xs.length := by simp
  by_cases hc : es.length + xs.length ≤ cap
  · rw [if_pos hc] at hunf
    generalize hcx' : evc tm x = cx at rv2
    rw [hcx'] at hcx
    cases rv2 with
    | slZ _ _ a' =>
      simp only [Value.slice.injEq, List.length_nil] at hcx
      obtain ⟨rfl, _, rfl⟩ := hcx
      have hxs : xs = [] := by
        have : xs.length = 0 := by simpa using hc
        simpa using this
      subst hxs
      have hnew0 : new = #[] := by simpa using hnewlen
      subst hnew0
      have hrun : (Builtin.append_ #[t0, t1] o.type #[evc tm x, evc tm y]).run C.P w = .ok (.slice a' 0 0) w := by
        rw [hunf]
        simp only [Sem.run_bind, hnew w rfl, Result.andThen_ok]
        cases a' <;> simp [storeCells]
      exact .value (hcall _ _ hrun) ⟨.refl w, fin_own (bs := []) hst (S2.drop (List.nil_sublist _)) hd hr11 (by simpa using RelV.slZ true sz a')⟩
    | ow _ _ b off capx cs el fr bs1' hh hf hcc hs hzz hl hv =>
      simp only [Value.slice.injEq] at hcx
      obtain ⟨rfl, _, hce⟩ := hcx
      obtain rfl : cap = capx := hce.symm
      have hmul := Nat.mul_le_mul_right sz hc
      rw [Nat.add_mul] at hmul
      have hbI : ¬ I2 b := S2.hnotI b (by simp)
      rw [List.nodup_append, List.nodup_cons] at hx0
      obtain ⟨nd2, ⟨hb1', nd1⟩, nd21⟩ := hx0
      obtain ⟨w', cs', s1, s2, s3, s4, s5, s6⟩ := storeCells_run (P := C.P) new.toList (off + es.length * sz) 0 w cs hh hf (by simp only [Array.length_toList, hnewlen]; omega)
        (fun v hv' => inew v (by simpa using hv'))
      have hrun : (Builtin.append_ #[t0, t1] o.type #[evc tm x, evc tm y]).run C.P w = .ok (.slice (some ⟨b, off, none⟩) (es.length + xs.length) cap) w' := by
        rw [hunf]
        simp only [Sem.run_bind, hnew w rfl, Result.andThen_ok, add_none, s1, Sem.run_pure]
      have hkeep : ∀ r, I2 r ∨ r ∈ bs1' ∨ r ∈ bs2 → w'.heap[r]? = w.heap[r]? := by
        intro r hr
        refine s4 r ?_
        rintro rfl
        rcases hr with hr | hr | hr
        · exact hbI hr
        · exact hb1' hr
        · exact nd21 _ hr _ (by simp) rfl
      have hcl : cs.toList.length = cs.size := Array.length_toList
      have hseg : (cs'.toList.drop off).take ((es ++ xs).length * sz) = (cs.toList.drop off).take (es.length * sz) ++ new.toList := by
        rw [s6, Nat.add_zero]
        have := window cs.toList new.toList off ((es ++ xs).length * sz) (off + es.length * sz) (by omega) (by simp only [Array.length_toList, hnewlen, hlen, Nat.add_mul]; omega) (by rw [hlen, Nat.add_mul]; omega)
        rw [this, show off + es.length * sz - off = es.length * sz from by omega, List.take_take, Nat.min_eq_left (by rw [hlen, Nat.add_mul]; omega)]
        rw [List.drop_of_length_le (l := (cs.toList.drop off).take ((es ++ xs).length * sz)) (by simp only [List.length_take, List.length_drop, Array.length_toList, hnewlen, hlen, Nat.add_mul]; omega), List.append_nil]
      have hrel : RelV w'.heap I2 (.sl true sz (es ++ xs)) (.slice (some ⟨b, off, none⟩) (es.length + xs.length) cap) (b :: (bs1' ++ bs2)) := by
        rw [← hlen]
        have hsz' : cs'.size = cs.size := by
          rw [← Array.length_toList, s6]; simp only [List.length_append, List.length_take, List.length_drop, hcl, Array.length_toList, hnewlen]; omega
        refine .ow sz _ b off cap cs' el fr _ s5 (by rw [hsz']; exact hf) (by rw [hlen]; exact hc) (by rw [hsz']; exact hs) ?_ ?_ ?_
        · intro y' hy'
          rcases List.mem_append.1 hy' with hy' | hy'
          · exact hzz y' hy'
          · exact znew y' hy'
        · rw [hseg, List.flatMap_append]
          exact RelL.append (RelL.mono (fun _ h => h) hl fun r hr => hkeep r (by rcases hr with hr | hr <;> simp [hr]))
            (RelL.mono (fun _ h => h) rnew fun r hr => hkeep r (by rcases hr with hr | hr <;> simp [hr]))
        · rw [hseg]
          intro v' hv'
          rcases List.mem_append.1 hv' with hv' | hv'
          · exact hv v' hv'
          · exact inew v' (by simpa using hv')
      have S3 := (S2.write (h' := w'.heap) (fun r hr => s4 r fun e' => hr (by rw [e']; simp)) s3).sub (H' := (b :: (bs1' ++ bs2)) ++ [])
        (by
          rw [List.append_nil, List.nodup_cons, List.nodup_append]
          refine ⟨?_, nd1, nd2, fun r1 h1 r2 h2 e' => nd21 r2 h2 r1 (by simp [h1]) e'.symm⟩
          intro hm
          rcases List.mem_append.1 hm with hm | hm
          · exact hb1' hm
          · exact nd21 b hm b (by simp) rfl)
        (by intro r hr; simp only [List.append_nil, List.mem_cons, List.mem_append] at hr ⊢; rcases hr with rfl | hr | hr <;> simp [hr])
      exact .value (hcall _ _ hrun) ⟨s2, fin_own hst S3 hd hr11 hrel⟩
  · rw [if_neg hc] at hunf
    obtain ⟨a3, cap3, old, bs3, f1, f2, f3, f4, f5, f6, f7, f8⟩ := firstCells_run (P := C.P) (size := sz) rv2 (.inl rfl)
    obtain ⟨zc, c1, c2, c3, c4⟩ := zero_elem hz0 hzc { w with drawn := w.drawn + 1 }
    have holdlen : old.size = es.length * sz := by
      have := f4.length
      rw [flat_len f8] at this; simpa using this.symm
    generalize hN : (Question.appendCap (es.length + xs.length) cap e).cut (w.tape w.drawn (.appendCap (es.length + xs.length) cap e)) = N
    have hNge : es.length + xs.length ≤ N := by rw [← hN]; simp [Question.cut]
    generalize hcells : old ++ new ++ Builtin.zeroCells zc.cells (N - (es.length + xs.length)) = cells
    have hrun : (Builtin.append_ #[t0, t1] o.type #[evc tm x, evc tm y]).run C.P w = .ok (.slice (some ⟨w.heap.size, 0, none⟩) (es.length + xs.length) N) { w with drawn := w.drawn + 1, heap := w.heap.push (.cells cells e) } := by
      rw [hunf]
      have g1 := f3 { w with drawn := w.drawn + 1 } rfl
      have g2 := hnew { w with drawn := w.drawn + 1 } rfl
      simp only [Sem.run_bind, run_choose, Question.forced, Bool.false_eq_true, if_false, hN, Result.andThen_ok, run_askRoom, g1, g2, c1, newRow, run_newObj, Sem.run_pure, hcells]
    have hsize : cells.size = N * sz := by
      have h1 := zeroCells_toList zc.cells (N - (es.length + xs.length))
      rw [Array.length_toList] at h1
      rw [← hcells, Array.size_append, Array.size_append, holdlen, hnewlen, h1, c4, hzl, Nat.sub_mul, Nat.add_mul]
      have := Nat.mul_le_mul_right sz hNge
      rw [Nat.add_mul] at this; omega
    have htake : cells.toList.take ((es ++ xs).length * sz) = old.toList ++ new.toList := by
      rw [← hcells, Array.toList_append, Array.toList_append, List.take_append_of_le_length (by simp only [List.length_append, Array.length_toList, holdlen, hnewlen, hlen, Nat.add_mul]; omega),
        List.take_of_length_le (by simp only [List.length_append, Array.length_toList, holdlen, hnewlen, hlen, Nat.add_mul]; omega)]
    rw [List.nodup_append] at hx0
    obtain ⟨nd2, nd1, nd21⟩ := hx0
    have nd3 := nd1.sublist f5
    have hrow := new_row (h := w.heap) (I := I2) (cap := N) (es := es ++ xs) (sz := sz) (cells := cells) (bs := bs3 ++ bs2) e
      (by rw [htake, List.flatMap_append]; exact RelL.append f4 rnew)
      (by
        intro y' hy'
        rcases List.mem_append.1 hy' with hy' | hy'
        · exact f8 y' hy'
        · exact znew y' hy') (by rw [hlen]; exact hNge) (by omega)
      (by
        rw [htake]
        intro v' hv'
        rcases List.mem_append.1 hv' with hv' | hv'
        · exact f6 v' (by simpa using hv')
        · exact inew v' (by simpa using hv'))
      (fun b hb => by
        rcases hb with hb | hb
        · exact S2.ilt b hb
        · rcases List.mem_append.1 hb with hb | hb
          · exact S2.hlt b (by simp [f5.subset hb])
          · exact S2.hlt b (by simp [hb]))
    rw [hlen] at hrow
    have S3 := (S2.sub (H' := bs3 ++ bs2)
      (by rw [List.nodup_append]; exact ⟨nd3, nd2, fun r1 h1 r2 h2 e' => nd21 r2 h2 r1 (f5.subset h1) e'.symm⟩)
      (by intro r hr; simp only [List.append_nil, List.mem_append] at hr ⊢; rcases hr with hr | hr; exact .inr (f5.subset hr); exact .inl hr)).alloc (.cells cells e)
    exact .value (hcall _ _ hrun) ⟨⟨rfl, rfl, rfl⟩, fin_own (bs := w.heap.size :: (bs3 ++ bs2)) hst (by simpa using S3) hd hr11 hrow⟩

end

end Go.Lm

namespace Go.Lm

/-- What the place's cell holds in memory, whatever is known of it. -/
def Lies (E : Env) (h : Heap) (tm : Array Value) (q : Place) (c : Value) : Prop :=
  (q.p = [] → c = tmf tm q.s) ∧
  (q.p ≠ [] → ∀ v x cn, E q.s = .own q.st q.ct v → v.get q.p = some x → walkC h v (tmf tm q.s) q.p = some cn → cn = c)

theorem put_any' {h : Heap} : ∀ {p : Path} {v v' : V} {c : Value}, p ≠ [] → v.put p .any = some v' → ∀ {p0 : Path} {x0 : V} {cn : Value}, v'.get p0 = some x0 →
    walkC h v' c p0 = some cn → ∃ x1, v.get p0 = some x1 ∧ walkC h v c p0 = some cn := by
  intro p
  induction p with
  | nil => intro v v' c hp; exact absurd rfl hp
  | cons ij p ih =>
    obtain ⟨i, j⟩ := ij
    intro v v' c _ hput p0 x0 cn hg hw
    cases p0 with
    | nil => exact ⟨v, rfl, by simpa [walkC] using hw⟩
    | cons ij0 p0 =>
      obtain ⟨i0, j0⟩ := ij0
      simp only [V.put, Option.bind_eq_some_iff] at hput
      obtain ⟨y, hy, hput⟩ := hput
      split at hput
      case isTrue => simp at hput
      rename_i hya
      simp only [Option.bind_eq_some_iff] at hput
      obtain ⟨y', hy', hset⟩ := hput
      have hya' : y'.isAgg = false := by
        cases p with
        | nil => simp only [V.put, Option.some.injEq] at hy'; subst hy'; rfl
        | cons ij1 p1 => rw [put_isAgg (by simp) hy']; simpa using hya
      simp only [V.get, Option.bind_eq_some_iff] at hg
      obtain ⟨z, hz, hg⟩ := hg
      simp only [walkC, childC_set hset, hz, Option.bind_eq_some_iff] at hw
      obtain ⟨c1, hc1, z1, hz1, hw⟩ := hw
      obtain rfl : z = z1 := by simpa using hz1
      rcases child_set hya' hset hz with ⟨rfl, rfl, rfl, _⟩ | hsame | ⟨rfl, hne, hnn, _, _⟩
      · cases p with
        | nil =>
          simp only [V.put, Option.some.injEq] at hy'
          subst hy'
          cases p0 with
          | nil => exact ⟨y, by simp [V.get, hy], by simpa [walkC, hc1, hy] using hw⟩
          | cons _ _ => simp [V.get, V.child] at hg
        | cons ij1 p1 =>
          obtain ⟨x1, g1, g4⟩ := ih (c := c1) (by simp) hy' hg hw
          exact ⟨x1, by simp [V.get, hy, g1], by simp [walkC, hc1, hy, g4]⟩
      · exact ⟨x0, by simp [V.get, hsame, hg], by simp [walkC, hc1, hsame, hw]⟩
      · exfalso
        cases v with
        | box w => simp only [V.child] at hy hz hnn; split at hy <;> simp_all
        | agg w => simp only [V.child] at hy hz hnn; split at hy <;> simp_all
        | tup w => simp only [V.child] at hy hz hnn; split at hy <;> simp_all
        | sl o sz es => rename_i hh; exact hh _ _ _ rfl
        | _ => simp [V.setChild] at hset

mutual
theorem RelV.plain {h : Heap} {I : Nat → Prop} : ∀ {v : V} {c : Value} {bs : List Nat}, RelV h I v c bs → v.plain = true → bs = [] ∧ ∀ h' I', RelV h' I' v c []
  | _, _, _, .any _, hp => by simp [V.plain] at hp
  | _, _, _, .bool b, _ => ⟨rfl, fun _ _ => .bool b⟩
  | _, _, _, .int k n, _ => ⟨rfl, fun _ _ => .int k n⟩
  | _, _, _, .str s, _ => ⟨rfl, fun _ _ => .str s⟩
  | _, _, _, .slE _ _ _, hp => by simp [V.plain] at hp
  | _, _, _, .slZ _ _ _, hp => by simp [V.plain] at hp
  | _, _, _, .sh _ _ _ _ _ _ _ _ _ _ _ _ _ _ _, hp => by simp [V.plain] at hp
  | _, _, _, .ow _ _ _ _ _ _ _ _ _ _ _ _ _ _ _ _, hp => by simp [V.plain] at hp
  | _, _, _, .box _ _ _ _ _ _ _ _ _ _, hp => by simp [V.plain] at hp
  | _, _, _, .cptr _ _ _ _ _ _ _ _ _ _ _ _ _, hp => by simp [V.plain] at hp
  | _, _, _, .agg vs cs bs hl, hp =>
    let r := RelL.plain hl (by simpa [V.plain] using hp)
    ⟨r.1, fun h' I' => .agg vs cs [] (r.2 h' I')⟩
  | _, _, _, .tup vs cs bs hl, hp =>
    let r := RelL.plain hl (by simpa [V.plain] using hp)
    ⟨r.1, fun h' I' => .tup vs cs [] (r.2 h' I')⟩
  | _, _, _, .fn _ _ _ _ _, hp => by simp [V.plain] at hp
  | _, _, _, .nilP, hp => by simp [V.plain] at hp
  | _, _, _, .nilF, hp => by simp [V.plain] at hp
theorem RelL.plain {h : Heap} {I : Nat → Prop} : ∀ {vs : List V} {cs : List Value} {bs : List Nat}, RelL h I vs cs bs → V.plain.plainL vs = true → bs = [] ∧ ∀ h' I', RelL h' I' vs cs []
  | _, _, _, .nil, _ => ⟨rfl, fun _ _ => .nil⟩
  | _, _, _, .cons v c b1 vs cs b2 h1 h2, hp => by
    simp only [V.plain.plainL, Bool.and_eq_true] at hp
    obtain ⟨r1, r2⟩ := RelV.plain h1 hp.1
    obtain ⟨q1, q2⟩ := RelL.plain h2 hp.2
    exact ⟨by rw [r1, q1]; rfl, fun h' I' => .cons v c [] vs cs [] (r2 h' I') (q2 h' I')⟩
end

section
variable {C : Ctx} {m : Sem_} {g : Gh} {n : Nat} {U : Nat → Prop} {tm : Array Value} {w : World}

inductive LentR (E : Env) (n : Nat) (h : Heap) (tm : Array Value) (I : Nat → Prop) (U : Nat → Prop) : List Bool → List (Operand × TypeId) → List (Option (V × Place)) → List Nat → Prop
  | nil (ws : List Bool) : LentR E n h tm I U ws [] [] []
  | lent (ws : List Bool) (x : Operand) (t : TypeId) (r : List (Operand × TypeId)) (v : V) (q : Place) (ls : List (Option (V × Place))) (b1 b2 : List Nat)
      (hw : ws.headD false = true) (hv : RelV h I v (evc tm x) b1) (hq : Lies E h tm q (evc tm x)) (hn : q.s < n) (hu : U q.st ∧ U q.ct)
      (hr : LentR E n h tm I U ws.tail r ls b2) : LentR E n h tm I U ws ((x, t) :: r) (some (v, q) :: ls) (b1 ++ b2)
  | read (ws : List Bool) (x : Operand) (t : TypeId) (r : List (Operand × TypeId)) (ls : List (Option (V × Place))) (b2 : List Nat)
      (hw : ws.headD false = false) (hr : LentR E n h tm I U ws.tail r ls b2) : LentR E n h tm I U ws ((x, t) :: r) (none :: ls) b2

theorem LentR.map {E E' : Env} {h h' : Heap} {I I' : Nat → Prop} {ws : List Bool} {args : List (Operand × TypeId)} {ls : List (Option (V × Place))} {bs : List Nat}
    (hr : LentR E n h tm I U ws args ls bs) (hL : ∀ q c, U q.st → U q.ct → q.s < n → Lies E h tm q c → Lies E' h' tm q c) (hV : ∀ v c b, RelV h I v c b → (∀ r ∈ b, r ∈ bs) → RelV h' I' v c b) :
    LentR E' n h' tm I' U ws args ls bs := by
  induction hr with
  | nil ws => exact .nil ws
  | lent ws x t r v q ls b1 b2 hw hv hq hn hu hr ih =>
    exact .lent ws x t r v q ls b1 b2 hw (hV _ _ _ hv fun r hr => by simp [hr]) (hL _ _ hu.1 hu.2 hn hq) hn hu (ih fun v c b h1 h2 => hV v c b h1 fun r hr => by simp [h2 r hr])
  | read ws x t r ls b2 hw hr ih => exact .read ws x t r ls b2 hw (ih hV)

theorem lies_clear {E E' : Env} {I : Nat → Prop} {fp : Nat → List Nat} {H : List Nat} (S : SH g n E U tm w.heap I fp H) {s st ct : Nat} {p : Path} {u : Unit} (hr : (clearAt s st ct p).run E = some (u, E'))
    (q : Place) (c : Value) (hL : Lies E w.heap tm q c) : Lies E' w.heap tm q c := by
  refine ⟨hL.1, fun hp v x cn h1 h2 h3 => ?_⟩
  unfold clearAt at hr
  split at hr
  · simp only [run_setS, Option.some.injEq, Prod.mk.injEq] at hr
    obtain ⟨_, rfl⟩ := hr
    simp only [upd] at h1
    split at h1
    · simp at h1
    · exact hL.2 hp v x cn h1 h2 h3
  · rename_i hpne
    simp only [wrAt, run_bind, run_getS, Option.bind_some] at hr
    split at hr
    case h_2 => simp [run_fail] at hr
    rename_i st' ct0 v0 heq
    obtain ⟨hcond, hr⟩ := ite_fail hr
    obtain ⟨v', E2, e2, hr2⟩ := run_bind_some hr
    obtain ⟨hv', rfl⟩ := run_opt_some' e2
    simp only [run_setS, Option.getD_none, Option.some.injEq, Prod.mk.injEq] at hr2
    obtain ⟨_, rfl⟩ := hr2
    simp only [upd] at h1
    split at h1
    · rename_i hs
      simp only [Bd.own.injEq] at h1
      obtain ⟨rfl, rfl, rfl⟩ := h1
      obtain ⟨x1, g1, g2⟩ := put_any' (h := w.heap) (c := tmf tm q.s) hpne hv' h2 h3
      exact hL.2 hp v0 x1 cn (by rw [hs]; exact heq) g1 g2
    · exact hL.2 hp v x cn h1 h2 h3

theorem lendP_ok : ∀ (args : List (Operand × TypeId)) (ws : List Bool) {E : Env} {I : Nat → Prop} {fp : Nat → List Nat} {H : List Nat}, SH g n E U tm w.heap I fp H → ∀ {ls : List (Option (V × Place))} {E' : Env},
    (lendP C ws args).run E = some (ls, E') →
    ∃ fp' bs, SH g n E' U tm w.heap I fp' (bs ++ H) ∧ LentR E' n w.heap tm I U ws args ls bs ∧ ls.length = args.length ∧
      (∀ q c, Lies E w.heap tm q c → Lies E' w.heap tm q c) ∧ Keeps E U I E' I w.heap tm := by
  intro args
  induction args with
  | nil =>
    intro ws E I fp H S ls E' hr
    have := run_pure_some hr
    simp only [Prod.mk.injEq] at this
    obtain ⟨rfl, rfl⟩ := this
    exact ⟨fp, [], by simpa using S, .nil ws, rfl, fun _ _ h => h, Keeps.refl⟩
  | cons a args ih =>
    obtain ⟨x, t⟩ := a
    intro ws E I fp H S ls E' hr
    simp only [lendP] at hr
    obtain ⟨l1, E1, e1, hr1⟩ := run_bind_some hr
    obtain ⟨ls', E2, e2, hr2⟩ := run_bind_some hr1
    have := run_pure_some hr2
    simp only [Prod.mk.injEq] at this
    obtain ⟨rfl, rfl⟩ := this
    unfold lend1 at e1
    split at e1
    · rename_i hw
      obtain ⟨b, E3, e3, hr3⟩ := run_bind_some e1
      obtain ⟨rfl, rb, sb, nb⟩ := ev_ok S e3
      split at hr3
      case h_2 => simp [run_fail] at hr3
      rename_i s st ct p
      obtain ⟨v, E4, e4, hr4⟩ := run_bind_some hr3
      obtain ⟨hv, rfl⟩ := run_rdAt_some e4
      simp only at hv
      obtain ⟨u, E5, e5, hr5⟩ := run_bind_some hr4
      have := run_pure_some hr5
      simp only [Prod.mk.injEq] at this
      obtain ⟨rfl, rfl⟩ := this
      obtain ⟨fp1, bx, c', S1, K1, r1, q1, _, _⟩ := S.takeAt hv e5
      have hcc : evc tm x = c' := q1 (fun _ cn => evc tm x = cn) rb.2
      subst hcc
      obtain ⟨fp2, bs2, S2, L2, hlen, hkeep, K2⟩ := ih ws.tail S1 e2
      have hlies : Lies E w.heap tm ⟨s, st, ct, p⟩ (evc tm x) := by
        obtain ⟨ct', v0, c0, h1, h2, h3, h4, h5, h6, _⟩ := S.at hv
        have hc0 : evc tm x = c0 := h6 (fun _ cn => evc tm x = cn) rb.2
        constructor
        · intro hp
          simp only at hp; subst hp
          simp only [walkC, Option.some.injEq] at h5
          rw [hc0, h5]
        · intro hp v1 x1 cn k1 k2 k3
          simp only at hp k1 k2 k3
          rw [h1] at k1
          simp only [Bd.own.injEq, true_and] at k1
          obtain ⟨_, rfl⟩ := k1
          rw [h5] at k3
          simp only [Option.some.injEq] at k3
          rw [← k3, hc0]
      obtain ⟨_, _, _, hown, _⟩ := S.at hv
      refine ⟨fp2, bx ++ bs2, S2.sub ?_ ?_, .lent ws x t args v ⟨s, st, ct, p⟩ ls' bx bs2 (by simpa using hw) r1 (hkeep _ _ (lies_clear S e5 _ _ hlies)) (S.lt_of_own hown) sb L2, by simp [hlen],
        fun q c h => hkeep q c (lies_clear S e5 q c h), K1.trans K2⟩
      · have hnd := S2.hnodup
        have : (bx ++ bs2 ++ H).Perm (bs2 ++ (bx ++ H)) := by
          rw [← List.append_assoc]; exact List.Perm.append_right _ List.perm_append_comm
        exact this.symm.nodup hnd
      · intro r hr'; simp only [List.mem_append] at hr' ⊢; rcases hr' with (hr' | hr') | hr' <;> simp [hr']
    · rename_i hw
      have := run_pure_some e1
      simp only [Prod.mk.injEq] at this
      obtain ⟨rfl, rfl⟩ := this
      obtain ⟨fp2, bs2, S2, L2, hlen, hkeep, K2⟩ := ih ws.tail S e2
      exact ⟨fp2, bs2, S2, .read ws x t args ls' bs2 (by simpa using hw) L2, by simp [hlen], hkeep, K2⟩

/-- The arguments as the callee gets them. -/
inductive RelArgs (h : Heap) (I : Nat → Prop) : List Bool → List V → List Value → List Nat → Prop
  | nil (ws : List Bool) : RelArgs h I ws [] [] []
  | lent (ws : List Bool) (v : V) (vs : List V) (c : Value) (cs : List Value) (b1 b2 : List Nat) (hw : ws.headD false = true) (hv : RelV h I v c b1) (hr : RelArgs h I ws.tail vs cs b2) :
      RelArgs h I ws (v :: vs) (c :: cs) (b1 ++ b2)
  | read (ws : List Bool) (v : V) (vs : List V) (c : Value) (cs : List Value) (b2 : List Nat) (hw : ws.headD false = false) (hv : RelV h I v c []) (hr : RelArgs h I ws.tail vs cs b2) :
      RelArgs h I ws (v :: vs) (c :: cs) b2

theorem RelArgs.append {h : Heap} {I : Nat → Prop} {vs' : List V} {cs' : List Value} (h2 : RelL h I vs' cs' []) : ∀ {ws : List Bool} {vs : List V} {cs : List Value} {bs : List Nat}, RelArgs h I ws vs cs bs → ws.length ≤ vs.length →
    RelArgs h I ws (vs ++ vs') (cs ++ cs') bs := by
  intro ws vs cs bs h1
  induction h1 with
  | nil ws =>
    intro hl
    have : ws = [] := by simpa using hl
    subst this
    simp only [List.nil_append]
    generalize hb : ([] : List Nat) = b at h2
    induction h2 using RelL.rec (motive_1 := fun _ _ _ _ => True) with
    | nil => exact .nil []
    | cons v c b1 vs cs b2 h1 h2 _ ih =>
      obtain ⟨rfl, rfl⟩ : b1 = [] ∧ b2 = [] := by simpa using hb.symm
      exact .read [] v vs c cs [] rfl h1 (ih rfl)
    | _ => trivial
  | lent ws v vs c cs b1 b2 hw hv hr ih =>
    intro hl
    exact .lent ws v _ c _ b1 b2 hw hv (ih (by cases ws <;> simp_all))
  | read ws v vs c cs b2 hw hv hr ih =>
    intro hl
    exact .read ws v _ c _ b2 hw hv (ih (by cases ws <;> simp_all))

end

end Go.Lm

namespace Go.Lm

section
variable {C : Ctx} {m : Sem_} {g : Gh} {n : Nat} {U : Nat → Prop} {tm : Array Value} {w : World}

/-- A slot's own tree is handed over to what nobody writes; the slot still reads it. -/
theorem SH.freezeRoot {E : Env} {I : Nat → Prop} {fp : Nat → List Nat} {H : List Nat} (S : SH g n E U tm w.heap I fp H) {s st ct : Nat} {v : V} (h1 : E s = .own st ct v) :
    ∃ I' fp', SH g n (upd E s (.val v.freeze)) U tm w.heap I' fp' H ∧ (∀ r, I r → I' r) ∧ (∀ r, I' r ∨ (∃ s, r ∈ fp' s) ↔ I r ∨ (∃ s, r ∈ fp s)) ∧
      Keeps E U I (upd E s (.val v.freeze)) I' w.heap tm ∧ RelV w.heap I' v.freeze (tmf tm s) [] := by
  have hsn := S.lt_of_own h1
  have hown := S.own h1
  have S1 := (S.empty h1).toI
  have hfz : RelV w.heap (fun r => I r ∨ r ∈ fp s) v.freeze (tmf tm s) [] := RelV.frozen (fun _ h => .inl h) hown fun b hb => .inr hb
  have S2 := S1.relabel (b := .val v.freeze) hsn (by simp) ⟨rfl, hfz⟩ trivial (by intro; simp)
  have eupd : upd (upd E s (.val .any)) s (.val v.freeze) = upd E s (.val v.freeze) := by funext t; simp [upd]; split <;> rfl
  rw [eupd] at S2
  have hV : ∀ s' st' ct0 p Q, U st' → U ct0 → Valid E w.heap tm s' st' ct0 p Q → Valid (upd E s (.val v.freeze)) w.heap tm s' st' ct0 p Q := by
    intro s' st' ct0 p Q _ _ hv ct1 v1 x cn h1
    simp only [upd] at h1
    split at h1
    · simp at h1
    · exact hv ct1 v1 x cn h1
  refine ⟨_, _, S2, fun _ h => .inl h, ?_, RelB.keep (fun _ h => .inl h) hV, hfz⟩
  intro r
  constructor
  · rintro ((h | h) | ⟨t, h⟩)
    · exact .inl h
    · exact .inr ⟨s, h⟩
    · split at h
      · simp at h
      · exact .inr ⟨t, h⟩
  · rintro (h | ⟨t, h⟩)
    · exact .inl (.inl h)
    · by_cases e : t = s
      · subst e; exact .inl (.inr h)
      · exact .inr ⟨t, by rw [if_neg e]; exact h⟩

theorem lies_upd {E : Env} {h : Heap} {s : Nat} {b : Bd} (hb : ∀ st ct v, b ≠ .own st ct v) (q : Place) (c : Value) (hL : Lies E h tm q c) : Lies (upd E s b) h tm q c := by
  refine ⟨hL.1, fun hp v x cn h1 h2 h3 => ?_⟩
  simp only [upd] at h1
  split at h1
  · exact absurd h1 (hb _ _ _)
  · exact hL.2 hp v x cn h1 h2 h3

/-- What reading the arguments does: the state may hand trees over to what nobody writes. -/
structure Reads (g : Gh) (n : Nat) (U : Nat → Prop) (tm : Array Value) (w : World) (H : List Nat) (E : Env) (I : Nat → Prop) (fp : Nat → List Nat) (E' : Env) (I' : Nat → Prop) (fp' : Nat → List Nat) : Prop where
  S : SH g n E' U tm w.heap I' fp' H
  hI : ∀ r, I r → I' r
  hz : ∀ r, zone I' fp' r ↔ zone I fp r
  hL : ∀ q c, Lies E w.heap tm q c → Lies E' w.heap tm q c
  hK : Keeps E U I E' I' w.heap tm

theorem Reads.refl {E : Env} {I : Nat → Prop} {fp : Nat → List Nat} {H : List Nat} (S : SH g n E U tm w.heap I fp H) : Reads g n U tm w H E I fp E I fp :=
  ⟨S, fun _ h => h, fun _ => Iff.rfl, fun _ _ h => h, Keeps.refl⟩
theorem Reads.trans {E E1 E2 : Env} {I I1 I2 : Nat → Prop} {fp fp1 fp2 : Nat → List Nat} {H : List Nat} (h1 : Reads g n U tm w H E I fp E1 I1 fp1) (h2 : Reads g n U tm w H E1 I1 fp1 E2 I2 fp2) :
    Reads g n U tm w H E I fp E2 I2 fp2 :=
  ⟨h2.S, fun r h => h2.hI r (h1.hI r h), fun r => (h2.hz r).trans (h1.hz r), fun q c h => h2.hL q c (h1.hL q c h), h1.hK.trans h2.hK⟩

theorem lentFlag_ok {E : Env} {I : Nat → Prop} {fp : Nat → List Nat} {H : List Nat} (S : SH g n E U tm w.heap I fp H) {b : Bd} {c : Value} (hb : RelB E w.heap tm I [] b c) {v : V} {E' : Env}
    (hr : (readB b).run E = some (v, E')) : E = E' ∧ RelV w.heap (zone I fp) v c [] ∧ (lentFlag b v = false → RelV w.heap I v c []) := by
  obtain ⟨rfl, rv⟩ := readB_ok S hb hr
  refine ⟨rfl, rv, ?_⟩
  intro hf
  unfold lentFlag at hf
  split at hf
  · have := run_pure_some hr
    simp only [Prod.mk.injEq] at this
    rw [← this.1]; exact hb.2
  · exact (rv.plain (by simpa using hf)).2 _ _

theorem read1_ok {E : Env} {I : Nat → Prop} {fp : Nat → List Nat} {H : List Nat} (S : SH g n E U tm w.heap I fp H) {x : Operand} {t : TypeId} {v : V} {f : Bool} {E' : Env} (hr : (read1 C x t).run E = some ((v, f), E')) :
    ∃ I' fp', Reads g n U tm w H E I fp E' I' fp' ∧ RelV w.heap (zone I' fp') v (evc tm x) [] ∧ (f = false → RelV w.heap I' v (evc tm x) []) := by
  unfold read1 at hr
  obtain ⟨b, E1, e1, hr1⟩ := run_bind_some hr
  obtain ⟨rfl, rb, sb, nb⟩ := ev_ok S e1
  have gen : ∀ {E' : Env}, (do let v ← readB b; pure (v, lentFlag b v) : Prg (V × Bool)).run E = some ((v, f), E') →
      ∃ I' fp', Reads g n U tm w H E I fp E' I' fp' ∧ RelV w.heap (zone I' fp') v (evc tm x) [] ∧ (f = false → RelV w.heap I' v (evc tm x) []) := by
    intro E' hg
    obtain ⟨v1, E2, e2, hg2⟩ := run_bind_some hg
    obtain ⟨rfl, r1, r2⟩ := lentFlag_ok S rb e2
    have := run_pure_some hg2
    simp only [Prod.mk.injEq] at this
    obtain ⟨⟨rfl, rfl⟩, rfl⟩ := this
    exact ⟨I, fp, .refl S, r1, r2⟩
  split at hr1
  · rename_i s' s st ct
    split at hr1
    · unfold readRoot at hr1
      obtain ⟨y, E2, e2, hr2⟩ := run_bind_some hr1
      obtain ⟨hy, rfl⟩ := run_rdAt_some e2
      obtain ⟨ct', v0, c', h1, h2, h3, h4, h5, h6, pre, bx, post, h7, h8, _⟩ := S.at hy
      have hcc : evc tm (.tmp s') = c' := h6 (fun _ cn => evc tm (.tmp s') = cn) rb.2
      simp only [V.get, Option.some.injEq] at h3
      subst h3
      simp only [walkC, Option.some.injEq] at h5
      split at hr2
      · have := run_pure_some hr2
        simp only [Prod.mk.injEq] at this
        obtain ⟨⟨rfl, rfl⟩, rfl⟩ := this
        refine ⟨I, fp, .refl S, ?_, by simp⟩
        have hown := S.own h1
        rw [h5, ← hcc] at hown
        exact RelV.frozen (fun _ h => .inl h) hown fun b hb => .inr ⟨s, hb⟩
      · obtain ⟨u, E3, e3, hr3⟩ := run_bind_some hr2
        simp only [run_setS, Option.some.injEq, Prod.mk.injEq] at e3
        obtain ⟨_, rfl⟩ := e3
        have := run_pure_some hr3
        simp only [Prod.mk.injEq] at this
        obtain ⟨⟨rfl, rfl⟩, rfl⟩ := this
        obtain ⟨I', fp', S', hI', hz', K', r'⟩ := S.freezeRoot h1
        rw [h5, ← hcc] at r'
        exact ⟨I', fp', ⟨S', hI', hz', fun q c h => lies_upd (by intro; simp) q c h, K'⟩, RelV.mono (fun _ h => .inl h) r' fun _ _ => rfl, fun _ => r'⟩
    · exact gen hr1
  · exact gen hr1

theorem readP_ok : ∀ (args : List (Operand × TypeId)) (ls : List (Option (V × Place))) {E : Env} {I : Nat → Prop} {fp : Nat → List Nat} {H : List Nat}, SH g n E U tm w.heap I fp H →
    ∀ {vs : List V} {f : Bool} {E' : Env} {ws : List Bool} {bs : List Nat}, (readP C ls args).run E = some ((vs, f), E') → LentR E n w.heap tm I U ws args ls bs →
    ∃ I' fp', Reads g n U tm w H E I fp E' I' fp' ∧ RelArgs w.heap (zone I' fp') ws vs (args.map fun a => evc tm a.1) bs ∧ (f = false → RelArgs w.heap I' ws vs (args.map fun a => evc tm a.1) bs) ∧ vs.length = args.length := by
  intro args
  induction args with
  | nil =>
    intro ls E I fp H S vs f E' ws bs hr hl
    cases hl with
    | nil =>
    have := run_pure_some hr
    simp only [Prod.mk.injEq] at this
    obtain ⟨⟨rfl, rfl⟩, rfl⟩ := this
    exact ⟨I, fp, .refl S, .nil ws, fun _ => .nil ws, rfl⟩
  | cons a args ih =>
    obtain ⟨x, t⟩ := a
    intro ls E I fp H S vs f E' ws bs hr hl
    cases hl with
    | lent _ _ _ _ v q ls b1 b2 hw hv hq hn hu hlr =>
      simp only [readP] at hr
      obtain ⟨⟨vs', f'⟩, E1, e1, hr1⟩ := run_bind_some hr
      have := run_pure_some hr1
      simp only [Prod.mk.injEq] at this
      obtain ⟨⟨rfl, rfl⟩, rfl⟩ := this
      obtain ⟨I', fp', R, a1, a2, a3⟩ := ih ls S e1 hlr
      exact ⟨I', fp', R, .lent ws v vs' _ _ b1 b2 hw (RelV.mono (fun r h => .inl (R.hI r h)) hv fun _ _ => rfl) a1,
        fun h => .lent ws v vs' _ _ b1 b2 hw (RelV.mono R.hI hv fun _ _ => rfl) (a2 h), by simp [a3]⟩
    | read _ _ _ _ ls _ hw hlr =>
      simp only [readP] at hr
      obtain ⟨⟨v, f1⟩, E1, e1, hr1⟩ := run_bind_some hr
      obtain ⟨⟨vs', f'⟩, E2, e2, hr2⟩ := run_bind_some hr1
      have := run_pure_some hr2
      simp only [Prod.mk.injEq] at this
      obtain ⟨⟨rfl, rfl⟩, rfl⟩ := this
      obtain ⟨I1, fp1, R1, r1, r2⟩ := read1_ok S e1
      have hlr1 : LentR E1 n w.heap tm I1 U ws.tail args ls bs := hlr.map (fun q c _ _ _ h => R1.hL q c h) fun v c b h _ => RelV.mono R1.hI h fun _ _ => rfl
      obtain ⟨I', fp', R, a1, a2, a3⟩ := ih ls R1.S e2 hlr1
      refine ⟨I', fp', R1.trans R, .read ws v vs' _ _ bs hw (RelV.mono (fun r h => (R.hz r).2 h) r1 fun _ _ => rfl) a1, ?_, by simp [a3]⟩
      intro h
      simp only [Bool.or_eq_false_iff] at h
      exact .read ws v vs' _ _ bs hw (RelV.mono R.hI (r2 h.1) fun _ _ => rfl) (a2 h.2)

/-- The concrete arguments that are lent. -/
def lentC : List Bool → List Value → List Value
  | _, [] => []
  | ws, c :: cs => if ws.headD false then c :: lentC ws.tail cs else lentC ws.tail cs

/-- What a call promises. -/
def FnOk (C : Ctx) (f : FuncId) (vals outs : List V) : Prop :=
  ∀ (fn : Func) (w : World) (I : Nat → Prop) (cargs : List Value) (bs : List Nat), C.P.funcs[f]? = some fn → RelArgs w.heap I (C.mt f) vals cargs bs → bs.Nodup → (∀ b ∈ bs, ¬ I b) → (∀ b, I b → b < w.heap.size) →
    Calls C.P f cargs.toArray w fun e w' => ∃ v I' b1 b2, e = .returned v ∧ Quiet w w' ∧ w.heap.size ≤ w'.heap.size ∧ (∀ r, r < w.heap.size → r ∉ bs → w'.heap[r]? = w.heap[r]?) ∧
      (∀ r, I r → I' r) ∧ (∀ r, I' r → I r ∨ r ∈ bs ∨ w.heap.size ≤ r) ∧ (∀ r, I' r → r < w'.heap.size) ∧
      RelV w'.heap I' (packR (outs.take fn.resultTypes.size)) v b1 ∧ RelL w'.heap I' (outs.drop fn.resultTypes.size) (lentC (C.mt f) cargs) b2 ∧
      (b1 ++ b2).Nodup ∧ (∀ r ∈ b1 ++ b2, ¬ I' r ∧ (r ∈ bs ∨ w.heap.size ≤ r))

theorem RelArgs.lt {h : Heap} {I : Nat → Prop} {ws : List Bool} {vs : List V} {cs : List Value} {bs : List Nat} (hr : RelArgs h I ws vs cs bs) : ∀ b ∈ bs, b < h.size := by
  induction hr with
  | nil => simp
  | lent ws v vs c cs b1 b2 hw hv hr ih =>
    intro b hb
    rcases List.mem_append.1 hb with hb | hb
    · exact hv.lt b hb
    · exact ih b hb
  | read ws v vs c cs b2 hw hv hr ih => exact ih

/-- Behind a call: the lent blocks are gone from the hand, the results' and the given ones are in it. -/
theorem SH.called {E : Env} {h h' : Heap} {I I' : Nat → Prop} {fp : Nat → List Nat} {bs bs' : List Nat} (S : SH g n E U tm h I fp bs) (hgrow : h.size ≤ h'.size) (hk : ∀ r, r < h.size → r ∉ bs → h'[r]? = h[r]?)
    (hI : ∀ r, I r → I' r) (hI' : ∀ r, I' r → I r ∨ r ∈ bs ∨ h.size ≤ r) (hIlt : ∀ r, I' r → r < h'.size) (hnd : bs'.Nodup) (hb : ∀ r ∈ bs', ¬ I' r ∧ (r ∈ bs ∨ h.size ≤ r) ∧ r < h'.size) :
    SH g n E U tm h' I' fp bs' := by
  have hIk : ∀ r, I r → h'[r]? = h[r]? := fun r hr => hk r (S.ilt r hr) fun hm => S.hnotI r hm hr
  have hfk : ∀ s r, r ∈ fp s → h'[r]? = h[r]? := fun s r hr => hk r (S.lt s r hr) fun hm => S.hdisj r hm s hr
  have hV : ∀ s' st' ct0 p Q, U st' → U ct0 → Valid E h tm s' st' ct0 p Q → Valid E h' tm s' st' ct0 p Q := by
    intro s' st' ct0 p Q _ _ hv
    refine hv.heap (bs := fp s') (I := I) (fun st'' ct'' v'' e'' => S.own e'') ?_
    intro r hr
    rcases hr with hr | hr
    · exact hIk r hr
    · exact hfk s' r hr
  exact { size := S.size, slot := fun s hs => RelB.map hI (fun r hr => by rcases hr with hr | hr; exact hIk r hr; exact hfk s r hr) hV (S.stamp s hs) (S.slot s hs),
          stamp := S.stamp, far := S.far, out := S.out, disj := S.disj, nodup := S.nodup,
          notI := fun s r hr hx => by
            rcases hI' r hx with h1 | h1 | h1
            · exact S.notI s r hr h1
            · exact S.hdisj r h1 s hr
            · have := S.lt s r hr; omega
          lt := fun s r hr => Nat.lt_of_lt_of_le (S.lt s r hr) hgrow, base := S.base,
          hnodup := hnd, hnotI := fun r hr => (hb r hr).1,
          hdisj := fun r hr s hm => by
            rcases (hb r hr).2.1 with h1 | h1
            · exact S.hdisj r h1 s hm
            · have := S.lt s r hm; omega
          hlt := fun r hr => (hb r hr).2.2,
          hbase := fun r hr => by
            rcases (hb r hr).2.1 with h1 | h1
            · exact S.hbase r h1
            · exact .inr (Nat.le_trans S.grow h1)
          ilt := hIlt, i0 := fun r hr => hI r (S.i0 r hr),
          ibase := fun r hr => by
            rcases hI' r hr with h1 | h1 | h1
            · exact S.ibase r h1
            · exact .inr (S.hbase r h1)
            · exact .inr (.inr (Nat.le_trans S.grow h1))
          grow := Nat.le_trans S.grow hgrow,
          frame := fun r hr hb' => by
            have hlt : r < h.size := Nat.lt_of_lt_of_le hr S.grow
            by_cases hm : r ∈ bs
            · rcases S.hbase r hm with h1 | h1
              · exact absurd h1 hb'
              · omega
            · rw [hk r hlt hm]; exact S.frame r hr hb' }

/-- Stamps that a call uses. -/
abbrev more16 (U : Nat → Prop) (st : Nat) : Nat → Prop := fun x => U x ∨ (st ≤ x ∧ x < st + 16)

inductive All2 {α β : Type} (R : α → β → Prop) : List α → List β → Prop
  | nil : All2 R [] []
  | cons {a : α} {b : β} {as : List α} {bs : List β} (h1 : R a b) (h2 : All2 R as bs) : All2 R (a :: as) (b :: bs)

theorem giveBack_ok {h : Heap} {I : Nat → Prop} : ∀ (ls : List (Option (V × Place))) (st0 : Nat) {U' : Nat → Prop} {E : Env} {fp : Nat → List Nat} {b2 H : List Nat} {vs : List V},
    SH g n E U' tm h I fp (b2 ++ H) → (∀ x, U x → U' x) → (∀ x, st0 ≤ x → x < st0 + ls.length → ¬ U' x) → (∀ l ∈ ls, ∀ v q, l = some (v, q) → q.s < n ∧ U' q.st ∧ U' q.ct) →
    (∃ cs, RelL h I vs cs b2 ∧ All2 (fun (x : V × Place) c => Lies E h tm x.2 c) (ls.filterMap id) cs) →
    ∀ {E' : Env} {u : Unit}, (giveBack st0 ls vs).run E = some (u, E') →
    ∃ fp', SH g n E' (fun x => U' x ∨ (st0 ≤ x ∧ x < st0 + ls.length)) tm h I fp' H := by
  intro ls
  induction ls with
  | nil =>
    intro st0 U' E fp b2 H vs S hU hfr _ hrel E' u hr
    cases vs with
    | nil =>
      have := run_pure_some hr
      simp only [Prod.mk.injEq] at this
      obtain ⟨_, rfl⟩ := this
      exact ⟨fp, (S.drop (List.sublist_append_right _ _)).widen fun _ h => .inl h⟩
    | cons => simp [giveBack, run_fail] at hr
  | cons l ls ih =>
    intro st0 U' E fp b2 H vs S hU hfr hq hrel E' u hr
    cases l with
    | none =>
      simp only [giveBack] at hr
      obtain ⟨fp', S'⟩ := ih st0 S hU (fun x a b => hfr x a (by simp only [List.length_cons]; omega)) (fun l hl => hq l (by simp [hl])) (by simpa using hrel) hr
      exact ⟨fp', S'.widen fun x h => h.imp id fun h => ⟨h.1, by simp only [List.length_cons]; omega⟩⟩
    | some vq =>
      obtain ⟨v0, q⟩ := vq
      cases vs with
      | nil => simp [giveBack, run_fail] at hr
      | cons v vs =>
      simp only [giveBack] at hr
      obtain ⟨u1, E1, e1, hr1⟩ := run_bind_some hr
      obtain ⟨cs, hl, hlies⟩ := hrel
      simp only [List.filterMap_cons, id_eq] at hlies
      cases hl with
      | cons _ c bv _ cs bvs hv hvs =>
      cases hlies with
      | cons hq1 hqs =>
      obtain ⟨hqn, hqst, hqct⟩ := hq (some (v0, q)) (by simp) v0 q rfl
      have hnew : ∀ x, st0 + 1 ≤ x → x < st0 + 1 + ls.length → ¬ (U' x ∨ x = st0) := by
        rintro x hx hx' (h | h)
        · exact hfr x (by omega) (by simp only [List.length_cons]; omega) h
        · omega
      replace hfr : ¬ U' st0 := hfr st0 (Nat.le_refl _) (by simp)
      have hS2 : SH g n E U' tm h I fp (bv ++ (bvs ++ H)) := by simpa [List.append_assoc] using S
      have key : ∃ fp1, SH g n E1 (fun x => U' x ∨ x = st0) tm h I fp1 (bvs ++ H) ∧ ∀ q' c', U' q'.st → U' q'.ct → Lies E h tm q' c' → Lies E1 h tm q' c' := by
        unfold back1 at e1
        split at e1
        · rename_i hp
          simp only [run_setS, Option.some.injEq, Prod.mk.injEq] at e1
          obtain ⟨_, rfl⟩ := e1
          have hc := hq1.1 hp
          subst hc
          have S3 := hS2.put (b := .own st0 st0 v) (c := tmf tm q.s) hqn (U' := fun x => U' x ∨ x = st0) (fun _ h => .inl h) ⟨.inr rfl, .inr rfl⟩
            (fun st ct v' e => by simp only [Bd.own.injEq] at e; rw [← e.1]; exact hfr) (.inl ⟨_, _, _, rfl⟩) hv
          rw [setIf_self tm q.s (by rw [S.size]; exact hqn)] at S3
          refine ⟨_, S3, ?_⟩
          intro q' c' hst' hct' hL'
          refine ⟨hL'.1, fun hp' v1 x1 cn k1 k2 k3 => ?_⟩
          simp only [upd] at k1
          split at k1
          · simp only [Bd.own.injEq] at k1
            exact absurd (k1.1 ▸ hst') hfr
          · exact hL'.2 hp' v1 x1 cn k1 k2 k3
        · rename_i ij pp hp
          obtain ⟨u2, E2, e2, e3⟩ := run_bind_some e1
          obtain ⟨hna, rfl⟩ := run_need_some e2
          simp only [wrAt, run_bind, run_getS, Option.bind_some] at e3
          split at e3
          case h_2 => simp [run_fail] at e3
          rename_i st' ct0 vr heq
          obtain ⟨hcond, e3⟩ := ite_fail e3
          obtain ⟨v', E4, e4, e5⟩ := run_bind_some e3
          obtain ⟨hv', rfl⟩ := run_opt_some' e4
          simp only at hv'
          simp only [run_setS, Option.getD_some, Option.some.injEq, Prod.mk.injEq] at e5
          obtain ⟨_, rfl⟩ := e5
          obtain ⟨rfl, hct0⟩ := hcond
          have hct1 : ct0 = q.ct := hct0.resolve_left (by rw [hp]; simp)
          subst hct1
          have hpne : q.p ≠ [] := by rw [hp]; simp
          have hget : ∃ x, vr.get q.p = some x := by
            have : ∀ (p : Path) (a b y : V), a.put p y = some b → ∃ x, a.get p = some x := by
              intro p
              induction p with
              | nil => intro a b y _; exact ⟨a, rfl⟩
              | cons ij p ihp =>
                obtain ⟨i, j⟩ := ij
                intro a b y hpt
                simp only [V.put, Option.bind_eq_some_iff] at hpt
                obtain ⟨z, hz, hpt⟩ := hpt
                split at hpt
                · simp at hpt
                simp only [Option.bind_eq_some_iff] at hpt
                obtain ⟨z', hz', _⟩ := hpt
                obtain ⟨x, hx⟩ := ihp _ _ _ hz'
                exact ⟨x, by simp [V.get, hz, hx]⟩
            exact this _ _ _ _ hv'
          obtain ⟨x, hx⟩ := hget
          obtain ⟨c', hw', pre, bx, post, hfp, hrx, hset⟩ := ctx (hS2.own heq) hx
          have hcc : c' = c := hq1.2 hpne vr x c' heq hx hw'
          subst hcc
          have hrel' := hset h I v bv (fun _ _ => rfl) (fun _ h => h) (fun _ => by simpa using hna) hv v' hv'
          have hndS := hS2.nodup q.s
          rw [hfp, List.nodup_append, List.nodup_append] at hndS
          obtain ⟨⟨n1, n2, n12⟩, n3, n123⟩ := hndS
          have hhn := hS2.hnodup
          rw [List.nodup_append] at hhn
          have hfin : ∀ r, r ∈ pre ∨ r ∈ bx ∨ r ∈ post → r ∈ fp q.s := fun r hr => by rw [hfp]; simp only [List.mem_append]; rcases hr with hr | hr | hr <;> simp [hr]
          have S3 := SH.edit (bs := bv) (H := bvs ++ H) (fs := pre ++ bv ++ post) (hs := []) (U' := fun x => U' x ∨ x = st0) (ct' := st0) hS2 heq (fun _ h => .inl h) (.inr rfl) (fun _ h => h) (fun _ h => .inl h) (fun _ _ => rfl) rfl hrel'
            (by
              intro r hr
              simp only [List.mem_append, List.not_mem_nil, or_false] at hr
              rcases hr with (hr | hr) | hr
              · exact .inl (hfin r (.inl hr))
              · exact .inr hr
              · exact .inl (hfin r (.inr (.inr hr))))
            (by
              rw [List.append_nil, List.nodup_append, List.nodup_append]
              refine ⟨⟨n1, hhn.1, fun a ha b hb e => ?_⟩, n3, fun a ha b hb e => ?_⟩
              · subst e; exact hS2.hdisj a (by simp [hb]) q.s (hfin a (.inl ha))
              · subst e
                rcases List.mem_append.1 ha with ha | ha
                · exact n123 a (by simp [ha]) a hb rfl
                · exact hS2.hdisj a (by simp [ha]) q.s (hfin a (.inr (.inr hb))))
            (by
              intro r hr hx'
              simp only [List.mem_append, List.not_mem_nil, or_false] at hr
              rcases hr with (hr | hr) | hr
              · exact hS2.notI q.s r (hfin r (.inl hr)) hx'
              · exact hS2.hnotI r (by simp [hr]) hx'
              · exact hS2.notI q.s r (hfin r (.inr (.inr hr))) hx')
            (by
              intro ctr p0 Q hctr hvd ct1 v1 x1 cn k1 k2 k3 k4 k5
              simp only [upd, if_true, Bd.own.injEq, true_and] at k1
              obtain ⟨rfl, rfl⟩ := k1
              have hp0 : p0 = [] := by
                rcases k2 with k2 | k2
                · exact k2
                · subst k2; exact absurd hctr hfr
              subst hp0
              simp only [V.get, Option.some.injEq] at k3
              subst k3
              rw [put_nsz hpne hv']
              exact hvd q.ct vr vr cn heq (.inl rfl) rfl (.inl rfl) (by simpa [walkC] using k5))
          refine ⟨_, by simpa using S3, ?_⟩
          intro q' c'' hst' hct' hL'
          refine ⟨hL'.1, fun hp' v1 x1 cn k1 k2 k3 => ?_⟩
          simp only [upd] at k1
          split at k1
          · simp only [Bd.own.injEq] at k1
            exact absurd (k1.2.1 ▸ hct') hfr
          · exact hL'.2 hp' v1 x1 cn k1 k2 k3
      obtain ⟨fp1, S1, hL1⟩ := key
      have hqs' : All2 (fun (x : V × Place) c => Lies E1 h tm x.2 c) (ls.filterMap id) cs := by
        have hmem : ∀ y ∈ ls.filterMap id, U' y.2.st ∧ U' y.2.ct := by
          intro y hy
          obtain ⟨l, hl, hly⟩ := List.mem_filterMap.1 hy
          simp only [id_eq] at hly
          obtain ⟨_, a, b⟩ := hq l (by simp [hl]) y.1 y.2 (by rw [hly])
          exact ⟨a, b⟩
        clear ih hr1 hr hq S hS2 S1 hvs
        generalize ls.filterMap id = l at hqs hmem ⊢
        induction hqs with
        | nil => exact .nil
        | cons h1 h2 ihh => exact .cons (hL1 _ _ (hmem _ (by simp)).1 (hmem _ (by simp)).2 h1) (ihh fun y hy => hmem y (by simp [hy]))
      obtain ⟨fp', S'⟩ := ih (st0 + 1) (U' := fun x => U' x ∨ x = st0) S1 (fun x h => .inl (hU x h)) hnew
        (fun l hl v q h => by obtain ⟨a, b, c⟩ := hq l (by simp [hl]) v q h; exact ⟨a, .inl b, .inl c⟩) ⟨cs, hvs, hqs'⟩ hr1
      refine ⟨fp', S'.widen fun x h => ?_⟩
      simp only [List.length_cons]
      rcases h with (h | h) | h
      · exact .inl h
      · exact .inr ⟨by omega, by omega⟩
      · exact .inr ⟨by omega, by omega⟩

end

end Go.Lm

namespace Go.Lm

section
variable {C : Ctx} {m : Sem_} {g : Gh} {n : Nat} {U : Nat → Prop} {tm : Array Value} {w : World}

theorem lent_all2 {E : Env} {h : Heap} {I : Nat → Prop} {ws : List Bool} {args : List (Operand × TypeId)} {ls : List (Option (V × Place))} {bs : List Nat} (hr : LentR E n h tm I U ws args ls bs) :
    All2 (fun (x : V × Place) c => Lies E h tm x.2 c) (ls.filterMap id) (lentC ws (args.map fun a => evc tm a.1)) ∧ ∀ l ∈ ls, ∀ v q, l = some (v, q) → q.s < n ∧ U q.st ∧ U q.ct := by
  induction hr with
  | nil ws => exact ⟨.nil, by simp⟩
  | lent ws x t r v q ls b1 b2 hw hv hq hn hu hr ih =>
    refine ⟨?_, ?_⟩
    · simp only [List.filterMap_cons, id_eq, List.map_cons, lentC, hw, if_true]
      exact .cons hq ih.1
    · intro l hl v' q' e
      rcases List.mem_cons.1 hl with rfl | hl
      · simp only [Option.some.injEq, Prod.mk.injEq] at e
        obtain ⟨rfl, rfl⟩ := e
        exact ⟨hn, hu.1, hu.2⟩
      · exact ih.2 l hl v' q' e
  | read ws x t r ls b2 hw hr ih =>
    refine ⟨?_, ?_⟩
    · simp only [List.filterMap_cons, id_eq, List.map_cons, lentC, hw, Bool.false_eq_true, if_false]
      exact ih.1
    · intro l hl v' q' e
      rcases List.mem_cons.1 hl with rfl | hl
      · simp at e
      · exact ih.2 l hl v' q' e

theorem lentC_nil : ∀ (cs : List Value), lentC [] cs = []
  | [] => rfl
  | _ :: cs => by simp [lentC, lentC_nil cs]

theorem lentC_append : ∀ (ws : List Bool) (cs cs' : List Value), ws.length ≤ cs.length → lentC ws (cs ++ cs') = lentC ws cs
  | [], cs, cs', _ => by rw [lentC_nil, lentC_nil]
  | w :: ws, [], cs', h => by simp at h
  | w :: ws, c :: cs, cs', h => by
    have := lentC_append ws cs cs' (by simpa using h)
    cases w <;> simp [lentC, this]

theorem packR_plain {l : List V} (h : V.plain.plainL l = true) : (packR l).plain = true := by
  unfold packR
  split
  · simp only [V.plain.plainL, Bool.and_true] at h; exact h
  · simpa [V.plain] using h

theorem deepL_take {l : List V} (k : Nat) (h : V.deep.deepL l = true) : V.deep.deepL (l.take k) = true ∧ V.deep.deepL (l.drop k) = true := by
  induction l generalizing k with
  | nil => simp [V.deep.deepL]
  | cons v l ih =>
    simp only [V.deep.deepL, Bool.and_eq_true] at h
    cases k with
    | zero => simp [V.deep.deepL, h]
    | succ k => have := ih k h.2; simp [V.deep.deepL, h, this]

theorem packR_deep {l : List V} (h : V.deep.deepL l = true) : (packR l).deep = true := by
  unfold packR
  split
  · simp only [V.deep.deepL, Bool.and_true] at h; exact h
  · simpa [V.deep] using h

/-- The behaviour of 'm' is kept by the program. -/
def FnSound (C : Ctx) (m : Sem_) : Prop := ∀ f vals outs, m (.func f) vals = some outs → FnOk C f vals outs

theorem callP_ok (hm : FnSound C m) {E : Env} {I Ir : Nat → Prop} {fp : Nat → List Nat} {bs : List Nat} (S : SH g n E U tm w.heap I fp bs) {st0 : Nat} (hst : ∀ x, st0 ≤ x → x < st0 + 16 → ¬ U x)
    {o : Oper} (hd : ∀ d, o.dst = some d → d < n) {f : FuncId} {vals caps : List V} {capc : List Value} {flag : Bool} {ls : List (Option (V × Place))} {args : List (Operand × TypeId)} {E' : Env} {u : Unit}
    (hr : (callP C m st0 o.dst f (vals ++ caps) flag ls).run E = some (u, E')) (hl : LentR E n w.heap tm I U (C.mt f) args ls bs) (hlen : ls.length = args.length) (hvl : vals.length = args.length)
    (hI : ∀ r, I r → Ir r) (hIr : ∀ r, Ir r → zone I fp r) (ha : RelArgs w.heap Ir (C.mt f) vals (args.map fun a => evc tm a.1) bs) (hc : RelL w.heap Ir caps capc []) (hflag : flag = false → ∀ r, Ir r → I r)
    {ds : List Deferred} {next : Act → World → Prop} {Q : Exit → Act → World → Prop} (hn : ∀ tm' w', Goal g n E' (more16 U st0) w tm' w' → next ⟨tm', ds⟩ w')
    (hexec : ∀ fn, C.P.funcs[f]? = some fn → fn.body.isSome = true → fn.name ≠ "runtime.NumGoroutine" → (execOp (evc tm) o).run C.P w = .ok (.enter f ((args.map fun a => evc tm a.1) ++ capc).toArray) w) :
    o.wp C.P ⟨tm, ds⟩ w next Q := by
  unfold callP at hr
  obtain ⟨fn, E1, e1, hr1⟩ := run_bind_some hr
  obtain ⟨hfn, rfl⟩ := run_opt_some' e1
  obtain ⟨u1, E2, e2, hr2⟩ := run_bind_some hr1
  obtain ⟨hb, rfl⟩ := run_need_some e2
  obtain ⟨outs, E3, e3, hr3⟩ := run_bind_some hr2
  obtain ⟨houts, rfl⟩ := run_opt_some' e3
  obtain ⟨u2, E4, e4, hr4⟩ := run_bind_some hr3
  obtain ⟨hneed, rfl⟩ := run_need_some e4
  obtain ⟨u3, E5, e5, hr5⟩ := run_bind_some hr4
  simp only [Bool.and_eq_true, Bool.or_eq_true, decide_eq_true_eq, bne_iff_ne, ne_eq, Bool.not_eq_true', beq_iff_eq] at hfn hb houts hneed
  obtain ⟨⟨⟨hk, hls, hmt⟩, hpl⟩, hdp⟩ := hneed
  have hIrlt : ∀ r, Ir r → r < w.heap.size := by
    intro r hr
    rcases hIr r hr with h | ⟨s, h⟩
    · exact S.ilt r h
    · exact S.lt s r h
  have hbsIr : ∀ r ∈ bs, ¬ Ir r := by
    intro r hr hx
    rcases hIr r hx with h | ⟨s, h⟩
    · exact S.hnotI r hr h
    · exact S.hdisj r hr s h
  have hargs : RelArgs w.heap Ir (C.mt f) (vals ++ caps) ((args.map fun a => evc tm a.1) ++ capc) bs := RelArgs.append hc ha (by rw [hvl, ← hlen]; exact hmt)
  have hcall := hm f _ outs houts fn w Ir _ bs hfn hargs S.hnodup hbsIr hIrlt
  unfold Oper.wp
  rw [eval_evc, hexec fn hfn hb.1 hb.2]
  rw [Oper.upon_enter]
  refine hcall.mono ?_
  rintro e w' ⟨v, I', b1, b2, rfl, hq, hgrow, hkeep, hI1, hI2, hI3, hres, hback, hnd, hout⟩
  simp only
  -- what is never written from here on
  let I1 : Nat → Prop := fun r => I' r ∧ ∀ s, r ∉ fp s
  have hI1I : ∀ r, I r → I1 r := fun r h => ⟨hI1 r (hI r h), fun s hx => S.notI s r hx h⟩
  have hI1sub : ∀ r, I1 r → I r ∨ r ∈ bs ∨ w.heap.size ≤ r := by
    rintro r ⟨h, hx⟩
    rcases hI2 r h with h1 | h1 | h1
    · rcases hIr r h1 with h2 | ⟨s, h2⟩
      · exact .inl h2
      · exact absurd h2 (hx s)
    · exact .inr (.inl h1)
    · exact .inr (.inr h1)
  -- the results do not lean on what was lent to be read
  have hI'1 : flag = false → ∀ r, I' r → I1 r := by
    intro hf r h
    refine ⟨h, fun s hx => ?_⟩
    rcases hI2 r h with h1 | h1 | h1
    · exact S.notI s r hx (hflag hf r h1)
    · exact S.hdisj r h1 s hx
    · have := S.lt s r hx; omega
  have hres1 : RelV w'.heap I1 (packR (outs.take fn.resultTypes.size)) v b1 ∧ RelL w'.heap I1 (outs.drop fn.resultTypes.size) (lentC (C.mt f) ((args.map fun a => evc tm a.1) ++ capc)) b2 := by
    rcases hdp with (hf | ⟨hpu, hlen'⟩) | hdeep
    · exact ⟨RelV.mono (hI'1 hf) hres fun _ _ => rfl, RelL.mono (hI'1 hf) hback fun _ _ => rfl⟩
    · have hplain := hpl.resolve_left (by simp [hpu])
      obtain ⟨rfl, h2⟩ := hres.plain (packR_plain hplain)
      refine ⟨h2 _ _, ?_⟩
      rw [List.drop_of_length_le (by omega)] at hback ⊢
      generalize lentC (C.mt f) ((args.map fun a => evc tm a.1) ++ capc) = lc at hback ⊢
      cases hback; exact .nil
    · obtain ⟨h1, h2⟩ := deepL_take fn.resultTypes.size hdeep
      exact ⟨hres.deep (packR_deep h1), hback.deep h2⟩
  obtain ⟨hres2, hback2⟩ := hres1
  have hperm : (b2 ++ b1).Perm (b1 ++ b2) := List.perm_append_comm
  have S1 := S.called (I' := I1) (bs' := b2 ++ b1) hgrow hkeep hI1I hI1sub (fun r h => hI3 r h.1) (hperm.symm.nodup hnd) (by
    intro r hr
    have hr' := hperm.mem_iff.1 hr
    have := hout r hr'
    refine ⟨fun h => this.1 h.1, this.2, ?_⟩
    rcases List.mem_append.1 hr' with h | h
    · exact hres.lt r h
    · exact hback.lt r h)
  have hall := lent_all2 hl
  have hlies : ∀ q c, Lies E w.heap tm q c → Lies E w'.heap tm q c := by
    intro q c hL
    refine ⟨hL.1, fun hp v1 x cn k1 k2 k3 => ?_⟩
    have hown := S.own k1
    rw [walkC_congr hown (h' := w'.heap) (fun r hr => ?_) (by simp [k2])] at k3
    · exact hL.2 hp v1 x cn k1 k2 k3
    · rcases hr with hr | hr
      · exact hkeep r (S.ilt r hr) fun hx => S.hnotI r hx hr
      · exact hkeep r (S.lt _ r hr) fun hx => S.hdisj r hx _ hr
  have hall2 : All2 (fun (x : V × Place) c => Lies E w'.heap tm x.2 c) (ls.filterMap id) (lentC (C.mt f) ((args.map fun a => evc tm a.1) ++ capc)) := by
    rw [lentC_append _ _ _ (by simp; omega)]
    have := hall.1
    clear hback hback2 hres hres2 hall
    generalize lentC (C.mt f) (args.map fun a => evc tm a.1) = lc at this ⊢
    generalize ls.filterMap id = l at this ⊢
    induction this with
    | nil => exact .nil
    | cons h1 h2 ih => exact .cons (hlies _ _ h1) ih
  obtain ⟨fp2, S2⟩ := giveBack_ok (U := U) (H := b1) ls (st0 + 1) S1 (fun _ h => h) (fun x hx hx' => hst x (by omega) (by omega)) hall.2 ⟨_, hback2, hall2⟩ e5
  have hstU : ¬ (fun x => U x ∨ (st0 + 1 ≤ x ∧ x < st0 + 1 + ls.length)) st0 := by
    rintro (h | h)
    · exact hst st0 (Nat.le_refl _) (by omega) h
    · omega
  have hpure : (fn.resultTypes.all fun u => pureT C.P 12 u) = true → b1 = [] := by
    intro hpu
    exact (hres2.plain (packR_plain (hpl.resolve_left (by simp [hpu])))).1
  obtain ⟨I3, fp3, S3⟩ := fin_mk (st0 := st0) hstU (by simpa using S2) hd hr5 hres2 (fun h => hpure (by simpa using h))
  have hput : (⟨tm, ds⟩ : Act).put o.dst v = ⟨putTm tm o.dst v, ds⟩ := put_putTm _ _ _
  rw [hput]
  refine hn _ _ ⟨hq, I3, fp3, S3.widen fun x hx => ?_⟩
  rcases hx with (h | h) | h
  · exact .inl h
  · exact .inr ⟨by omega, by omega⟩
  · exact .inr ⟨by omega, by omega⟩

end

end Go.Lm

namespace Go.Lm

section
variable {C : Ctx} {m : Sem_} {g : Gh} {n : Nat} {U : Nat → Prop} {tm : Array Value} {w : World} {E : Env} {I : Nat → Prop} {fp : Nat → List Nat}

theorem Goal.widen {E' : Env} {U1 U2 : Nat → Prop} {tm' : Array Value} {w' : World} (h : Goal g n E' U1 w tm' w') (hU : ∀ x, U1 x → U2 x) : Goal g n E' U2 w tm' w' := by
  obtain ⟨hq, I', fp', S⟩ := h
  exact ⟨hq, I', fp', S.widen hU⟩

theorem Res.wp {P : Program} {o : Oper} {K : Array Value → World → Prop} (h : Res P o tm w K) {ds : List Deferred} {next : Act → World → Prop} {Q : Exit → Act → World → Prop}
    (hn : ∀ tm' w', K tm' w' → next ⟨tm', ds⟩ w') : o.wp P ⟨tm, ds⟩ w next Q := by
  obtain ⟨w', ⟨v, hr, hk⟩ | ⟨hr, hk⟩⟩ := h
  · unfold Oper.wp
    rw [eval_evc, hr, Oper.upon_value, put_putTm]
    exact hn _ _ hk
  · unfold Oper.wp
    rw [eval_evc, hr, Oper.upon_skip, put_putTm]
    exact hn _ _ hk

theorem minmax_ok (S : SH g n E U tm w.heap I fp []) {st0 : Nat} {o : Oper} {c : Call} (ho : o.op = .call c) (isMin : Bool) (hcb : c.callee = .builtin (if isMin then .min else .max)) (hd : ∀ d, o.dst = some d → d < n)
    (hs : c.args.size = c.argTypes.size) {v : V} {vs : List V} {r : V} (hv : (evVs C.P (c.args.toList.zip c.argTypes.toList)).run E = some (v :: vs, E)) (hne : vs ≠ []) (hm : minmax isMin v vs = some r) {E' : Env} {u : Unit}
    (hr : (putD o.dst (.val r)).run E = some (u, E')) : Res C.P o tm w (Goal g n E' (more U st0) w) := by
  obtain ⟨_, hrel⟩ := evVs_ok S _ hv
  have hmap : (c.args.toList.zip c.argTypes.toList).map (fun x => evc tm x.1) = c.args.toList.map (evc tm) := by
    have := List.map_fst_zip (l₁ := c.args.toList) (l₂ := c.argTypes.toList) (by simp [hs])
    conv => rhs; rw [← this]
    simp [Function.comp_def]
  rw [hmap] at hrel
  generalize hcs : c.args.toList.map (evc tm) = cs at hrel
  generalize hnil : ([] : List Nat) = b0 at hrel
  cases hrel with
  | cons _ cv b1 _ cs' b2 h1 h2 =>
  obtain ⟨rfl, rfl⟩ : b1 = [] ∧ b2 = [] := by simpa using hnil.symm
  obtain ⟨c', g1, g2⟩ := minmax_run (P := C.P) w vs cs' v r cv h1 h2 hne hm
  refine .value (v := c') ?_ ⟨.refl w, fin_val S hd hr (g2 _ _)⟩
  rw [call_builtin ho hcb]
  have hargs : (c.args.map (evc tm)).toList = cv :: cs' := by rw [Array.toList_map, hcs]
  cases isMin with
  | true =>
    have g : Sem.run C.P (List.foldlM Builtin.min2 cv cs') w = .ok c' w := by simpa using g1
    simp [builtin, Builtin.min_, hcs, g]
  | false =>
    have g : Sem.run C.P (List.foldlM Builtin.max2 cv cs') w = .ok c' w := by simpa using g1
    simp [builtin, Builtin.max_, hcs, g]

theorem calleeP_ok (hm : FnSound C m) (S : SH g n E U tm w.heap I fp []) {st0 : Nat} (hst : ∀ x, st0 ≤ x → x < st0 + 16 → ¬ U x) {o : Oper} (hd : ∀ d, o.dst = some d → d < n) {c : Call} (ho : o.op = .call c) {E' : Env} {u : Unit}
    (hr : (calleeP C m st0 o c).run E = some (u, E')) {ds : List Deferred} {next : Act → World → Prop} {Q : Exit → Act → World → Prop} (hn : ∀ tm' w', Goal g n E' (more16 U st0) w tm' w' → next ⟨tm', ds⟩ w') :
    o.wp C.P ⟨tm, ds⟩ w next Q := by
  have hst0 : ¬ U st0 := hst st0 (Nat.le_refl _) (by omega)
  have hres : Res C.P o tm w (Goal g n E' (more U st0) w) → o.wp C.P ⟨tm, ds⟩ w next Q :=
    fun h => h.wp fun tm' w' h => hn _ _ (h.widen fun x hx => hx.imp id fun hx => by omega)
  unfold calleeP at hr
  obtain ⟨u1, E1, e1, hr1⟩ := run_bind_some hr
  obtain ⟨hs, rfl⟩ := run_need_some e1
  simp only [decide_eq_true_eq] at hs
  have hmap : (c.args.toList.zip c.argTypes.toList).map (fun x => evc tm x.1) = c.args.toList.map (evc tm) := by
    have := List.map_fst_zip (l₁ := c.args.toList) (l₂ := c.argTypes.toList) (by simp [hs])
    conv => rhs; rw [← this]
    simp [Function.comp_def]
  split at hr1
  · rename_i hcb
    split at hr1
    · rename_i x t hargs
      obtain ⟨ha, hat⟩ := zip1 hs hargs
      obtain ⟨b, E2, e2, hr2⟩ := run_bind_some hr1
      have hE := (ev_ok S e2).1
      subst hE
      exact hres (len_ok S ho hcb ha hat hd e2 hr2)
    · simp [run_fail] at hr1
  · rename_i hcb
    split at hr1
    · rename_i x t y t' hargs
      obtain ⟨ha, hat⟩ := zip2 hs hargs
      obtain ⟨ba, E2, e2, hr2⟩ := run_bind_some hr1
      have hE := (ev_ok S e2).1
      subst hE
      obtain ⟨bb, E3, e3, hr3⟩ := run_bind_some hr2
      have hE := (ev_ok S e3).1
      subst hE
      exact hres (append_ok S hst0 ho hcb ha hat hd e2 e3 hr3)
    · simp [run_fail] at hr1
  · rename_i hcb
    obtain ⟨vs, E2, e2, hr2⟩ := run_bind_some hr1
    obtain ⟨rfl, _⟩ := evVs_ok S _ e2
    split at hr2
    · obtain ⟨u2, E3, e3, hr3⟩ := run_bind_some hr2
      obtain ⟨hne, rfl⟩ := run_need_some e3
      obtain ⟨r, E4, e4, hr4⟩ := run_bind_some hr3
      obtain ⟨hmm, rfl⟩ := run_opt_some' e4
      exact hres (minmax_ok S ho true hcb hd hs e2 (by simpa using hne) hmm hr4)
    · simp [run_fail] at hr2
  · rename_i hcb
    obtain ⟨vs, E2, e2, hr2⟩ := run_bind_some hr1
    obtain ⟨rfl, _⟩ := evVs_ok S _ e2
    split at hr2
    · obtain ⟨u2, E3, e3, hr3⟩ := run_bind_some hr2
      obtain ⟨hne, rfl⟩ := run_need_some e3
      obtain ⟨r, E4, e4, hr4⟩ := run_bind_some hr3
      obtain ⟨hmm, rfl⟩ := run_opt_some' e4
      exact hres (minmax_ok S ho false hcb hd hs e2 (by simpa using hne) hmm hr4)
    · simp [run_fail] at hr2
  · rename_i f hcb
    obtain ⟨ls, E2, e2, hr2⟩ := run_bind_some hr1
    obtain ⟨fp1, bs, S1, L1, hlen, _, _⟩ := lendP_ok _ _ S e2
    obtain ⟨⟨vs, flag⟩, E3, e3, hr3⟩ := run_bind_some hr2
    rw [List.append_nil] at S1
    obtain ⟨I2, fp2, R, a1, a2, a3⟩ := readP_ok _ _ S1 e3 L1
    have L2 : LentR E3 n w.heap tm I2 U (C.mt f) _ ls bs := L1.map (fun q c _ _ _ h => R.hL q c h) fun v c b h _ => RelV.mono R.hI h fun _ _ => rfl
    have hexec : ∀ fn, C.P.funcs[f]? = some fn → fn.body.isSome = true → fn.name ≠ "runtime.NumGoroutine" →
        (execOp (evc tm) o).run C.P w = .ok (.enter f (((c.args.toList.zip c.argTypes.toList).map fun (a : Operand × TypeId) => evc tm a.1) ++ []).toArray) w := by
      intro fn h1 h2 h3
      have hbn : fn.body.isNone = false := by cases hb : fn.body <;> simp_all
      rw [hmap, List.append_nil]
      simp only [execOp, ho, resolve, hcb, evc, Deferred.ofValue, Sem.run_bind, Sem.run_pure, Result.andThen_ok, invoke, callFunc, run_program, h1, beq_iff_eq, if_neg h3, hbn, Bool.false_eq_true, if_false]
      simp
      apply Array.ext'; simp
    by_cases hf : flag = true
    · exact callP_ok hm R.S hst hd (vals := vs) (caps := []) (capc := []) (Ir := zone I2 fp2) (by simpa using hr3) L2 hlen a3 (fun _ h => .inl h) (fun _ h => h) a1 .nil (by simp [hf]) hn hexec
    · exact callP_ok hm R.S hst hd (vals := vs) (caps := []) (capc := []) (Ir := I2) (by simpa using hr3) L2 hlen a3 (fun _ h => h) (fun _ h => .inl h) (a2 (by simpa using hf)) .nil (fun _ _ h => h) hn hexec
  · rename_i x _ hcb
    obtain ⟨b, E2, e2, hr2⟩ := run_bind_some hr1
    obtain ⟨rfl, rb, sb, nb⟩ := ev_ok S e2
    have hexec : ∀ (f : FuncId) (arr : Array Value), evc tm x = .func (.func f) #[] arr → ∀ fn, C.P.funcs[f]? = some fn → fn.body.isSome = true → fn.name ≠ "runtime.NumGoroutine" →
        (execOp (evc tm) o).run C.P w = .ok (.enter f (((c.args.toList.zip c.argTypes.toList).map fun (a : Operand × TypeId) => evc tm a.1) ++ arr.toList).toArray) w := by
      intro f arr hx fn h1 h2 h3
      have hbn : fn.body.isNone = false := by cases hb : fn.body <;> simp_all
      rw [hmap]
      simp only [execOp, ho, resolve, hcb, hx, Deferred.ofValue, Sem.run_bind, Sem.run_pure, Result.andThen_ok, invoke, callFunc, run_program, h1, beq_iff_eq, if_neg h3, hbn, Bool.false_eq_true, if_false]
      congr 2
      apply Array.ext'; simp
    split at hr2
    · rename_i f caps
      have rb2 : RelV w.heap I (.fn f caps) (evc tm x) [] := rb.2
      generalize hx : evc tm x = cx at rb2
      cases rb2 with
      | fn _ _ arr _ hcaps =>
      obtain ⟨ls, E3, e3, hr3⟩ := run_bind_some hr2
      obtain ⟨fp1, bs, S1, L1, hlen, _, _⟩ := lendP_ok _ _ S e3
      obtain ⟨⟨vs, flag⟩, E4, e4, hr4⟩ := run_bind_some hr3
      rw [List.append_nil] at S1
      obtain ⟨I2, fp2, R, a1, a2, a3⟩ := readP_ok _ _ S1 e4 L1
      have L2 : LentR E4 n w.heap tm I2 U (C.mt f) _ ls bs := L1.map (fun q c _ _ _ h => R.hL q c h) fun v c b h _ => RelV.mono R.hI h fun _ _ => rfl
      have hcaps2 : RelL w.heap I2 caps arr.toList [] := RelL.mono R.hI hcaps fun _ _ => rfl
      by_cases hf : flag = true
      · exact callP_ok hm R.S hst hd (Ir := zone I2 fp2) hr4 L2 hlen a3 (fun _ h => .inl h) (fun _ h => h) a1 (RelL.mono (fun _ h => .inl h) hcaps2 fun _ _ => rfl) (by simp [hf]) hn (hexec f arr hx)
      · exact callP_ok hm R.S hst hd (Ir := I2) hr4 L2 hlen a3 (fun _ h => h) (fun _ h => .inl h) (a2 (by simpa using hf)) hcaps2 (fun _ _ h => h) hn (hexec f arr hx)
    · rename_i f caps
      obtain ⟨_, arr, hx, hcaps⟩ := rb
      obtain ⟨ls, E3, e3, hr3⟩ := run_bind_some hr2
      obtain ⟨fp1, bs, S1, L1, hlen, _, K1⟩ := lendP_ok _ _ S e3
      obtain ⟨⟨vs, flag⟩, E4, e4, hr4⟩ := run_bind_some hr3
      rw [List.append_nil] at S1
      obtain ⟨I2, fp2, R, a1, a2, a3⟩ := readP_ok _ _ S1 e4 L1
      obtain ⟨cs, E5, e5, hr5⟩ := run_bind_some hr4
      have hcaps2 : RelB E4 w.heap tm I2 [] (.clo f caps) (evc tm x) := R.hK _ _ sb nb (K1 _ _ sb nb ⟨rfl, arr, hx, hcaps⟩)
      obtain ⟨_, arr2, hx2, hcaps3⟩ := hcaps2
      have harr : arr2 = arr := by rw [hx] at hx2; simpa using hx2.symm
      subst harr
      obtain ⟨rfl, hcaps4⟩ := readCaps_ok R.S hcaps3 e5
      have L2 : LentR E4 n w.heap tm I2 U (C.mt f) _ ls bs := L1.map (fun q c _ _ _ h => R.hL q c h) fun v c b h _ => RelV.mono R.hI h fun _ _ => rfl
      by_cases hf : (flag || !caps.isEmpty) = true
      · exact callP_ok hm R.S hst hd (Ir := zone I2 fp2) hr5 L2 hlen a3 (fun _ h => .inl h) (fun _ h => h) a1 hcaps4 (by simp [hf]) hn (hexec f arr2 hx)
      · simp only [Bool.or_eq_true, Bool.not_eq_true', not_or, Bool.not_eq_true, Bool.not_eq_false, List.isEmpty_iff] at hf
        obtain ⟨hf1, hf2⟩ := hf
        subst hf2
        have : cs = [] := by
          have := run_pure_some e5
          simp only [Prod.mk.injEq] at this
          exact this.1.symm
        subst this
        have harr0 : arr2.toList = [] := by generalize arr2.toList = ar at hcaps4; cases hcaps4; rfl
        exact callP_ok hm R.S hst hd (Ir := I2) hr5 L2 hlen a3 (fun _ h => h) (fun _ h => .inl h) (a2 hf1) (by rw [harr0]; exact .nil) (fun _ _ h => h) hn (hexec f arr2 hx)
    · simp [run_fail] at hr2
  · simp [run_fail] at hr1

theorem opP_ok (hm : FnSound C m) (S : SH g n E U tm w.heap I fp []) {st0 : Nat} (hst : ∀ x, st0 ≤ x → x < st0 + 16 → ¬ U x) {o : Oper} (hd : ∀ d, o.dst = some d → d < n) {E' : Env} {u : Unit}
    (hr : (opP C m st0 o).run E = some (u, E')) {ds : List Deferred} {next : Act → World → Prop} {Q : Exit → Act → World → Prop} (hn : ∀ tm' w', Goal g n E' (more16 U st0) w tm' w' → next ⟨tm', ds⟩ w') :
    o.wp C.P ⟨tm, ds⟩ w next Q := by
  have hst0 : ¬ U st0 := hst st0 (Nat.le_refl _) (by omega)
  have hres : Res C.P o tm w (Goal g n E' (more U st0) w) → o.wp C.P ⟨tm, ds⟩ w next Q :=
    fun h => h.wp fun tm' w' h => hn _ _ (h.widen fun x hx => hx.imp id fun hx => by omega)
  cases ho : o.op with
  | move x => exact hres (move_ok S ho hd hr)
  | assign x => exact hres (assign_ok S hst0 ho hd hr)
  | pick a b c => exact hres (pick_ok S ho hd hr)
  | alloc e => exact hres (alloc_ok S hst0 ho hd hr)
  | box e x => exact hres (box_ok S hst0 ho hd hr)
  | build t parts => exact hres (build_ok S hst0 ho hd hr)
  | buildSlice t len parts => exact hres (buildSlice_ok S hst0 ho hd hr)
  | load t a =>
    simp only [opP, ho] at hr
    obtain ⟨b, E1, e1, hr1⟩ := run_bind_some hr
    have hE := (ev_ok S e1).1
    subst hE
    exact hres (load_ok S hst0 ho hd e1 hr1)
  | store t a x =>
    simp only [opP, ho] at hr
    obtain ⟨u1, E0, e0, hr0⟩ := run_bind_some hr
    obtain ⟨hdn, rfl⟩ := run_need_some e0
    obtain ⟨ba, E1, e1, hr1⟩ := run_bind_some hr0
    have hE := (ev_ok S e1).1
    subst hE
    obtain ⟨bx, E2, e2, hr2⟩ := run_bind_some hr1
    have hE := (ev_ok S e2).1
    subst hE
    exact hres (store_ok S hst0 ho (by simpa using hdn) e1 e2 hr2)
  | nilCheck x => exact hres (nilCheck_ok S ho hd hr)
  | binOp op xt x y yt => exact hres (binOp_ok S ho hd hr)
  | unOp op xt x => exact hres (unOp_ok S ho hd hr)
  | convert a b x => exact hres (conv_ok S hst0 ho hd hr)
  | makeFunc fn a b =>
    cases fn with
    | func f => exact hres (makeFunc_ok S ho hd hr)
    | _ => simp [opP, ho, run_fail] at hr
  | makeSlice t l c => exact hres (makeSlice_ok S hst0 ho hd hr)
  | slice t x lo hi mx =>
    cases mx with
    | none => exact hres (slice_ok S ho hd hr)
    | some _ => simp [opP, ho, run_fail] at hr
  | fieldAddr s x f => exact hres (fieldAddr_ok S ho hd hr)
  | field s x f => exact hres (field_ok S ho hd hr)
  | indexAddr t x i => exact hres (indexAddr_ok S ho hd hr)
  | index t x i => exact hres (index_ok S ho hd hr)
  | extract x i => exact hres (extract_ok S hst0 ho hd hr)
  | call c =>
    simp only [opP, ho] at hr
    exact calleeP_ok hm S hst hd ho hr hn
  | _ => simp [opP, ho, run_fail] at hr

theorem guardP_ok (hm : FnSound C m) (S : SH g n E U tm w.heap I fp []) {st0 : Nat} (hst : ∀ x, st0 ≤ x → x < st0 + 16 → ¬ U x) {ops : Array Oper} {o : Oper} (hd : ∀ d, o.dst = some d → d < n) {E' : Env} {u : Unit}
    (hr : (guardP C m ops st0 o).run E = some (u, E')) {ds : List Deferred} {next : Act → World → Prop} {Q : Exit → Act → World → Prop} (hn : ∀ tm' w', Goal g n E' (more16 U st0) w tm' w' → next ⟨tm', ds⟩ w') :
    if Region.wanted o (yielded ops tm) then o.wp C.P ⟨tm, ds⟩ w next Q ∨ (o.asks C.P ⟨tm, ds⟩ w ∧ LetsOut Q) else next ((⟨tm, ds⟩ : Act).put o.dst undef) w := by
  unfold guardP at hr
  split at hr
  · rename_i hg
    rw [if_pos (by simp [Region.wanted, hg])]
    exact .inl (opP_ok hm S hst hd hr hn)
  · rename_i j want hg
    split at hr
    · rename_i d hdst
      obtain ⟨b, E1, e1, hr1⟩ := run_bind_some hr
      simp only [run_getS, Option.some.injEq, Prod.mk.injEq] at e1
      obtain ⟨rfl, rfl⟩ := e1
      have hyl : ∀ c, tmf tm d = c → yielded ops tm j = (match c with | .bool b => some b | _ => none) := by
        intro c hc
        unfold tmf at hc
        simp only [Array.getD_eq_getD_getElem?] at hc
        cases h : tm[d]? with
        | none =>
          rw [h] at hc
          simp only [Option.getD_none] at hc
          subst hc
          simp only [yielded, hdst, Option.bind_some, h]
          rfl
        | some x =>
          rw [h] at hc
          simp only [Option.getD_some] at hc
          subst hc
          simp only [yielded, hdst, Option.bind_some, h]
          cases x <;> rfl
      have skip : ∀ c, tmf tm d = c → (match c with | .bool b => some b | _ => none) ≠ some want → (putD o.dst (.val (.tup [])) : Prg Unit).run E = some (u, E') →
          if Region.wanted o (yielded ops tm) then o.wp C.P ⟨tm, ds⟩ w next Q ∨ (o.asks C.P ⟨tm, ds⟩ w ∧ LetsOut Q) else next ((⟨tm, ds⟩ : Act).put o.dst undef) w := by
        intro c hc hne hr2
        rw [if_neg (by simp only [Region.wanted, hg, hyl c hc]; simpa using hne), put_putTm]
        exact hn _ _ ⟨.refl w, (by
          obtain ⟨I', fp', S'⟩ := fin_val (st0 := st0) S hd hr2 (.tup [] #[] [] .nil)
          exact ⟨I', fp', S'.widen fun x hx => hx.imp id fun hx => by omega⟩)⟩
      split at hr1
      · rename_i bb heq
        have hdn : d < n := by
          by_cases h : d < n
          · exact h
          · have := S.out d (Nat.le_of_not_lt h); rw [heq] at this; simp at this
        have hs := S.slot d hdn
        rw [heq] at hs
        have htm := rel_bool hs.2
        split at hr1
        · rename_i hw
          rw [if_pos (by simp only [Region.wanted, hg, hyl _ htm]; simp [hw])]
          exact .inl (opP_ok hm S hst hd hr1 hn)
        · rename_i hw
          exact skip _ htm (by simpa using hw) hr1
      · rename_i heq
        have hdn : d < n := by
          by_cases h : d < n
          · exact h
          · have := S.out d (Nat.le_of_not_lt h); rw [heq] at this; simp at this
        have hs := S.slot d hdn
        rw [heq] at hs
        have htm : tmf tm d = .tuple #[] := by
          have h2 := hs.2
          generalize tmf tm d = c at h2 ⊢
          cases h2 with
          | tup _ cs _ hl =>
            obtain ⟨l⟩ := cs
            cases hl
            rfl
        exact skip _ htm (by simp) hr1
      · simp [run_fail] at hr1
    · simp [run_fail] at hr

end

end Go.Lm

namespace Go.Lm
open Prg

/-! Footprints. -/

theorem bit_or_one (r s t : Nat) : (r ||| 1 <<< s).testBit t = (r.testBit t || decide (t = s)) := by
  rw [Nat.testBit_or, Nat.one_shiftLeft, Nat.testBit_two_pow]
  congr 1
  exact decide_eq_decide.2 eq_comm

theorem run_keeps {α : Type} : ∀ (p : Prg α) (E : Env) {a : α} {E1 : Env}, p.run E = some (a, E1) → ∀ s, (p.foot E).2.testBit s = false → E1 s = E s
  | .ret _, E, a, E1, h, s, _ => by simp [Prg.run] at h; rw [h.2]
  | .fail, _, _, _, h, _, _ => by simp [Prg.run] at h
  | .get s k, E, a, E1, h, t, ht => run_keeps (k (E s)) E h t ht
  | .set s b k, E, a, E1, h, t, ht => by
    simp only [Prg.foot, bit_or_one, Bool.or_eq_false_iff, decide_eq_false_iff_not] at ht
    rw [run_keeps k (upd E s b) h t ht.1]
    simp [upd, ht.2]

theorem run_congr {α : Type} : ∀ (p : Prg α) (E E' : Env) {a : α} {E1 : Env}, p.run E = some (a, E1) → (∀ s, (p.foot E).1.testBit s = true → E' s = E s) →
    p.foot E' = p.foot E ∧ p.run E' = some (a, fun s => if (p.foot E).2.testBit s then E1 s else E' s)
  | .ret _, E, E', a, E1, h, _ => by
    simp only [Prg.run, Option.some.injEq, Prod.mk.injEq] at h
    obtain ⟨rfl, rfl⟩ := h
    simp [Prg.foot, Prg.run]
  | .fail, _, _, _, _, h, _ => by simp [Prg.run] at h
  | .get s k, E, E', a, E1, h, hr => by
    have hs : E' s = E s := hr s (by simp [Prg.foot, bit_or_one])
    have ih := run_congr (k (E s)) E E' h fun t ht => hr t (by simp [Prg.foot, bit_or_one, ht])
    simp only [Prg.foot, Prg.run, hs, ih.1]
    exact ⟨trivial, ih.2⟩
  | .set s b k, E, E', a, E1, h, hr => by
    have h' : k.run (upd E s b) = some (a, E1) := h
    have ih := run_congr k (upd E s b) (upd E' s b) h' fun t ht => by
      simp only [upd]; split
      · rfl
      · exact hr t (by simpa [Prg.foot] using ht)
    simp only [Prg.foot, Prg.run, ih.1]
    refine ⟨trivial, ?_⟩
    rw [ih.2]
    congr 2
    funext t
    simp only [bit_or_one, upd]
    by_cases ht : t = s
    · subst ht
      by_cases hb : (k.foot (upd E t b)).2.testBit t = true
      · simp [hb]
      · have := run_keeps k _ h' t (by simpa using hb)
        simp [hb, this, upd]
    · simp [ht]

def disj (x y : Nat × Nat) : Prop := ∀ s, (x.2.testBit s = true → y.1.testBit s = false ∧ y.2.testBit s = false) ∧ (x.1.testBit s = true → y.2.testBit s = false)

theorem run_swap {α β : Type} {p : Prg α} {q : Prg β} {E E1 E2 : Env} {a : α} {c : β} (hp : p.run E = some (a, E1)) (hq : q.run E1 = some (c, E2)) (hd : disj (p.foot E) (q.foot E1)) :
    ∃ Eq, q.run E = some (c, Eq) ∧ q.foot E = q.foot E1 ∧ p.run Eq = some (a, E2) ∧ p.foot Eq = p.foot E := by
  have hk1 := run_keeps p E hp
  have hk2 := run_keeps q E1 hq
  obtain ⟨f1, r1⟩ := run_congr q E1 E hq fun s hs => by
    rw [hk1 s]
    cases h : (p.foot E).2.testBit s
    · rfl
    · have := ((hd s).1 h).1; rw [hs] at this; simp at this
  refine ⟨_, r1, f1, ?_⟩
  obtain ⟨f2, r2⟩ := run_congr p E (fun s => if (q.foot E1).2.testBit s then E2 s else E s) hp fun s hs => by
    simp [(hd s).2 hs]
  refine ⟨?_, f2⟩
  rw [r2]
  congr 2
  funext s
  by_cases h : (p.foot E).2.testBit s = true
  · simp only [h, if_true]
    exact (hk2 s ((hd s).1 h).2).symm
  · simp only [h, Bool.false_eq_true, if_false]
    split
    · rfl
    · rename_i h2
      rw [hk2 s (by simpa using h2), hk1 s (by simpa using h)]

section
variable {C : Ctx} {m : Sem_} {ops : Array Oper} {clk : Nat}

def runL (C : Ctx) (m : Sem_) (ops : Array Oper) (clk : Nat) : List Nat → Env → Option Env
  | [], E => some E
  | i :: r, E => (ops[i]?).bind fun o => ((guardP C m ops (clk + 16 * i) o).run E).bind fun x => runL C m ops clk r x.2

def feetL (C : Ctx) (m : Sem_) (ops : Array Oper) (clk : Nat) : List Nat → Env → List (Nat × (Nat × Nat))
  | [], _ => []
  | i :: r, E => match ops[i]? with
    | some o => (i, (guardP C m ops (clk + 16 * i) o).foot E) :: (match (guardP C m ops (clk + 16 * i) o).run E with
      | some x => feetL C m ops clk r x.2
      | none => [])
    | none => []

def Loose (b : Array Nat) (x y : Nat × (Nat × Nat)) : Prop := (b.getD y.1 0).testBit x.1 = true ∨ disj x.2 y.2

theorem runL_cons {i : Nat} {r : List Nat} {E E' : Env} (h : runL C m ops clk (i :: r) E = some E') :
    ∃ o u E1, ops[i]? = some o ∧ (guardP C m ops (clk + 16 * i) o).run E = some (u, E1) ∧ runL C m ops clk r E1 = some E' ∧
      feetL C m ops clk (i :: r) E = (i, (guardP C m ops (clk + 16 * i) o).foot E) :: feetL C m ops clk r E1 := by
  simp only [runL, Option.bind_eq_some_iff] at h
  obtain ⟨o, ho, ⟨u, E1⟩, h1, h2⟩ := h
  exact ⟨o, u, E1, ho, h1, h2, by simp [feetL, ho, h1]⟩

theorem runL_mk {i : Nat} {r : List Nat} {E E1 : Env} {o : Oper} {u : Unit} (ho : ops[i]? = some o) (h1 : (guardP C m ops (clk + 16 * i) o).run E = some (u, E1)) :
    runL C m ops clk (i :: r) E = runL C m ops clk r E1 ∧ feetL C m ops clk (i :: r) E = (i, (guardP C m ops (clk + 16 * i) o).foot E) :: feetL C m ops clk r E1 := by
  simp [runL, feetL, ho, h1]

theorem front {b : Array Nat} {i : Nat} {post : List Nat} : ∀ (pre : List Nat) (E E' : Env), runL C m ops clk (pre ++ i :: post) E = some E' → (feetL C m ops clk (pre ++ i :: post) E).Pairwise (Loose b) →
    (∀ j ∈ pre, (b.getD i 0).testBit j = false) →
    ∃ o u E1, ops[i]? = some o ∧ (guardP C m ops (clk + 16 * i) o).run E = some (u, E1) ∧ (i, (guardP C m ops (clk + 16 * i) o).foot E) ∈ feetL C m ops clk (pre ++ i :: post) E ∧
      runL C m ops clk (pre ++ post) E1 = some E' ∧ (feetL C m ops clk (pre ++ post) E1).Sublist (feetL C m ops clk (pre ++ i :: post) E)
  | [], E, E', h, hl, _ => by
    obtain ⟨o, u, E1, ho, h1, h2, h3⟩ := runL_cons h
    refine ⟨o, u, E1, ho, h1, ?_, h2, ?_⟩
    · rw [List.nil_append, h3]; simp
    · rw [List.nil_append, List.nil_append, h3]; exact List.sublist_cons_self _ _
  | p :: pre, E, E', h, hl, hb => by
    simp only [List.cons_append] at h hl ⊢
    obtain ⟨op, up, Ep, hop, hp1, hp2, hp3⟩ := runL_cons h
    rw [hp3] at hl ⊢
    obtain ⟨hl1, hl2⟩ := List.pairwise_cons.1 hl
    obtain ⟨o, u, E1, ho, h1, h2, h3, h4⟩ := front pre Ep E' hp2 hl2 fun j hj => hb j (by simp [hj])
    have hd : disj ((guardP C m ops (clk + 16 * p) op).foot E) ((guardP C m ops (clk + 16 * i) o).foot Ep) := by
      rcases hl1 _ h2 with h | h
      · simp only at h; rw [hb p (by simp)] at h; simp at h
      · exact h
    obtain ⟨Eq, r1, f1, r2, f2⟩ := run_swap hp1 h1 hd
    obtain ⟨k1, k2⟩ := runL_mk (C := C) (m := m) (clk := clk) (r := pre ++ post) hop r2
    refine ⟨o, u, Eq, ho, r1, ?_, ?_, ?_⟩
    · rw [f1]; simp [h2]
    · rw [k1]; exact h3
    · rw [k2, f2]; exact h4.cons_cons _

/-! What stands before an operation. -/

theorem before_inner {acc : Array Nat} {o : Oper} {i : Nat} (h : (o.after.foldl (fun s e => if Region.binds .any e then s ||| 2 ^ e.on ||| acc.getD e.on 0 else s) 0).testBit i = true) :
    ∃ e ∈ o.after, Region.binds .any e = true ∧ (e.on = i ∨ (acc.getD e.on 0).testBit i = true) := by
  rw [← Array.foldl_toList] at h
  simp only [← Array.mem_toList_iff]
  generalize o.after.toList = l at h ⊢
  have : ∀ (l : List Edge) (s : Nat), (l.foldl (fun s e => if Region.binds .any e then s ||| 2 ^ e.on ||| acc.getD e.on 0 else s) s).testBit i = true →
      s.testBit i = true ∨ ∃ e ∈ l, Region.binds .any e = true ∧ (e.on = i ∨ (acc.getD e.on 0).testBit i = true) := by
    intro l
    induction l with
    | nil => exact fun s h => .inl h
    | cons e l ih =>
      intro s h
      rw [List.foldl_cons] at h
      rcases ih _ h with h | ⟨e', h1, h2⟩
      · split at h
        · rename_i hb
          rw [Nat.testBit_or, Nat.testBit_or, Nat.testBit_two_pow] at h
          simp only [Bool.or_eq_true, decide_eq_true_eq] at h
          rcases h with (h | h) | h
          · exact .inl h
          · exact .inr ⟨e, by simp, hb, .inl h⟩
          · exact .inr ⟨e, by simp, hb, .inr h⟩
        · exact .inl h
      · exact .inr ⟨e', by simp [h1], h2⟩
  rcases this l 0 h with h | h
  · simp at h
  · exact h

theorem before_spec {i j : Nat} (h : ((Region.before ops).getD j 0).testBit i = true) :
    ∃ o e, ops[j]? = some o ∧ e ∈ o.after ∧ Region.binds .any e = true ∧ (e.on = i ∨ (e.on < j ∧ ((Region.before ops).getD e.on 0).testBit i = true)) := by
  have key := Array.foldl_induction (as := ops)
    (fun k (acc : Array Nat) => acc.size = k ∧ ∀ i j, (acc.getD j 0).testBit i = true → ∃ o e, ops[j]? = some o ∧ e ∈ o.after ∧ Region.binds .any e = true ∧ (e.on = i ∨ (e.on < j ∧ (acc.getD e.on 0).testBit i = true)))
    (init := #[]) (f := fun acc o => acc.push (o.after.foldl (fun s e => if Region.binds .any e then s ||| 2 ^ e.on ||| acc.getD e.on 0 else s) 0))
    ⟨rfl, by intro i j h; simp at h⟩
    (by
      rintro ⟨k, hk⟩ acc ⟨hs, ih⟩
      have hs : acc.size = k := hs
      refine ⟨by simp [hs], fun i j h => ?_⟩
      have hg : ∀ (x j : Nat), (acc.push x).getD j 0 = if j = k then x else acc.getD j 0 := by
        intro x j
        simp only [Array.getD_eq_getD_getElem?, Array.getElem?_push, hs]
        split <;> simp
      rw [hg] at h
      split at h
      · rename_i hj
        obtain ⟨e, he, hb, h⟩ := before_inner h
        refine ⟨ops[k], e, by subst hj; simp [hk], he, hb, ?_⟩
        rcases h with h | h
        · exact .inl h
        · have : e.on < k := by
            rcases Nat.lt_or_ge e.on k with h' | h'
            · exact h'
            · rw [Array.getD_eq_getD_getElem?, Array.getElem?_eq_none (by omega)] at h; simp at h
          refine .inr ⟨by omega, ?_⟩
          rw [hg, if_neg (by omega)]; exact h
      · obtain ⟨o, e, h1, h2, h3, h4⟩ := ih i j h
        refine ⟨o, e, h1, h2, h3, h4.imp id fun ⟨h5, h6⟩ => ⟨h5, ?_⟩⟩
        have : e.on < k := by
          rcases Nat.lt_or_ge e.on k with h' | h'
          · exact h'
          · rw [Array.getD_eq_getD_getElem?, Array.getElem?_eq_none (by omega)] at h6; simp at h6
        rw [hg, if_neg (by omega)]; exact h6)
  exact key.2 i j h

def Closed (ops : Array Oper) (listed : Array Bool) : Prop := ∀ j o, listed.getD j false = true → ops[j]? = some o → ∀ e ∈ o.after, Region.binds .any e = true → listed.getD e.on false = true

theorem before_listed {listed : Array Bool} (hc : Closed ops listed) : ∀ (j : Nat) {o : Oper}, ops[j]? = some o → (∀ e ∈ o.after, Region.binds .any e = true → listed.getD e.on false = true) →
    ∀ i, ((Region.before ops).getD j 0).testBit i = true → listed.getD i false = true := by
  intro j
  induction j using Nat.strongRecOn with
  | ind j ih =>
    intro o ho hp i hi
    obtain ⟨o', e, h1, h2, h3, h4⟩ := before_spec hi
    rw [ho, Option.some.injEq] at h1
    subst h1
    have he := hp e h2 h3
    rcases h4 with h4 | ⟨h4, h5⟩
    · rw [← h4]; exact he
    · obtain ⟨o2, _, h6, _⟩ := before_spec h5
      exact ih e.on h4 h6 (fun e' he' hb' => hc e.on o2 he h6 e' he' hb') i h5

def edgesOK (ops : Array Oper) : Bool := ops.toList.zipIdx.all fun (o, i) => o.after.all fun e => !Region.binds .any e || decide (e.on < i)

theorem edgesOK_spec (h : edgesOK ops = true) {j : Nat} {o : Oper} (ho : ops[j]? = some o) {e : Edge} (he : e ∈ o.after) (hb : Region.binds .any e = true) : e.on < j := by
  have := List.all_eq_true.1 h (o, j) (by
    rw [List.mem_zipIdx_iff_getElem?]; simpa using ho)
  simp only [Array.all_eq_true', Bool.or_eq_true, Bool.not_eq_true', decide_eq_true_eq] at this
  rcases this e he with h | h
  · rw [hb] at h; simp at h
  · exact h
end

end Go.Lm

namespace Go.Lm
open Prg

section
variable {C : Ctx} {m : Sem_} {g : Gh} {n : Nat} {ops : Array Oper} {clk : Nat} {Q : Exit → Act → World → Prop} {ds : List Deferred}

def dstsOK (n : Nat) (ops : Array Oper) : Bool := ops.all fun o => match o.dst with | some d => decide (d < n) | none => true

theorem dstsOK_spec (h : dstsOK n ops = true) {i : Nat} {o : Oper} (ho : ops[i]? = some o) : ∀ d, o.dst = some d → d < n := by
  intro d hd
  have := (Array.all_eq_true'.1 h) o (Array.mem_of_getElem? ho)
  simpa [hd] using this

/-- What every write of the operation's own slot keeps. -/
def Stays (ops : Array Oper) (K : Array Value → Prop) : Prop := ∀ (i : Nat) (o : Oper), ops[i]? = some o → ∀ tm c, K tm → K (putTm tm o.dst c)

theorem wp_put {P : Program} {o : Oper} {tm : Array Value} {w : World} {K : Array Value → Prop} (hK : ∀ c, K (putTm tm o.dst c)) {next : Act → World → Prop}
    (h : o.wp P ⟨tm, ds⟩ w (fun a w' => K a.tmps → next a w') Q) : o.wp P ⟨tm, ds⟩ w next Q := by
  unfold Oper.wp at *
  have hput : ∀ ds' v, K ((⟨tm, ds'⟩ : Act).put o.dst v).tmps := fun ds' v => by rw [put_putTm]; exact hK v
  generalize (execOp _ o).run P w = r at *
  cases r with
  | ok nx w' =>
    cases nx <;> simp only [Oper.upon] at h ⊢ <;>
      first
        | exact h (hput _ _)
        | exact Calls.mono h (fun e w'' he => by cases e <;> first | exact he (hput _ _) | exact he)
        | exact Rows.mono h (fun _ _ he => he (hput _ _))
  | halt x w' => cases x <;> simp only [Oper.upon] at h ⊢ <;> exact h

theorem wpOp_put {P : Program} {i : Nat} {o : Oper} (ho : ops[i]? = some o) {tm : Array Value} {w : World} {K : Array Value → Prop} (hK : ∀ c, K (putTm tm o.dst c)) {next : Act → World → Prop}
    (h : wpOp P ops Q i (fun a w' => K a.tmps → next a w') ⟨tm, ds⟩ w) : wpOp P ops Q i next ⟨tm, ds⟩ w := by
  unfold wpOp at *
  simp only [ho] at *
  split
  · rename_i hw
    simp only [hw, if_true] at h
    exact h.imp (wp_put hK) id
  · rename_i hw
    simp only [hw] at h
    exact h (by rw [put_putTm]; exact hK _)

theorem wpOp_ok (hm : FnSound C m) {U : Nat → Prop} {tm : Array Value} {w : World} {E : Env} {I : Nat → Prop} {fp : Nat → List Nat} (S : SH g n E U tm w.heap I fp []) {i : Nat} {o : Oper} (ho : ops[i]? = some o)
    (hst : ∀ x, clk + 16 * i ≤ x → x < clk + 16 * i + 16 → ¬ U x) (hd : ∀ d, o.dst = some d → d < n) {E' : Env} {u : Unit} (hr : (guardP C m ops (clk + 16 * i) o).run E = some (u, E'))
    {K : Array Value → Prop} (hK : Stays ops K) (hk : K tm) {next : Act → World → Prop} (hn : ∀ tm' w', Goal g n E' (more16 U (clk + 16 * i)) w tm' w' → K tm' → next ⟨tm', ds⟩ w') : wpOp C.P ops Q i next ⟨tm, ds⟩ w := by
  refine wpOp_put ho (hK i o ho tm · hk) ?_
  unfold wpOp
  rw [ho]
  exact guardP_ok hm S hst hd hr hn

/-- In the text's order. -/
theorem ops_ok (hm : FnSound C m) (hdst : dstsOK n ops = true) {K : Array Value → Prop} (hK : Stays ops K) {w0 : World} {E' : Env} : ∀ (k i : Nat) {U : Nat → Prop} {tm : Array Value} {w : World} {E : Env} {I : Nat → Prop} {fp : Nat → List Nat},
    SH g n E U tm w.heap I fp [] → (∀ x, U x → x < clk + 16 * i) → Quiet w0 w → K tm → runL C m ops clk (List.range' i k) E = some E' →
    (∀ tm' w' I' fp', Quiet w0 w' → SH g n E' (fun x => x < clk + 16 * (i + k)) tm' w'.heap I' fp' [] → K tm' → Q .normal ⟨tm', ds⟩ w') → wpOps C.P ops Q (List.range' i k) ⟨tm, ds⟩ w
  | 0, i, U, tm, w, E, I, fp, S, hU, hq, hk, hr, hf => by
    simp only [List.range'_zero, runL, Option.some.injEq] at hr
    subst hr
    exact hf _ _ _ _ hq (S.widen fun x hx => by simpa using hU x hx) hk
  | k + 1, i, U, tm, w, E, I, fp, S, hU, hq, hk, hr, hf => by
    rw [List.range'_succ] at hr ⊢
    obtain ⟨o, u, E1, ho, h1, h2, _⟩ := runL_cons hr
    rw [wpOps_cons]
    refine wpOp_ok hm S ho (fun x h1 h2 h3 => by have := hU x h3; omega) (dstsOK_spec hdst ho) h1 hK hk ?_
    rintro tm1 w1 ⟨hq1, I1, fp1, S1⟩ hk1
    refine ops_ok hm hdst hK k (i + 1) S1 (fun x hx => ?_) (hq.trans hq1) hk1 h2 fun tm' w' I' fp' a b => hf tm' w' I' fp' a (b.widen fun x hx => by omega)
    rcases hx with hx | hx
    · have := hU x hx; omega
    · omega

def remain (ops : Array Oper) (listed : Array Bool) : List Nat := (List.range ops.size).filter fun i => !listed.getD i true

theorem filter_split {l pre post : List Nat} {i : Nat} (h : l = pre ++ i :: post) (hn : l.Nodup) : l.filter (fun k => decide (k ≠ i)) = pre ++ post := by
  subst h
  have hn' := hn
  rw [List.nodup_append, List.nodup_cons] at hn
  obtain ⟨_, ⟨h2, _⟩, h3⟩ := hn
  rw [List.filter_append, List.filter_cons]
  simp only [ne_eq, not_true_eq_false, decide_false, Bool.false_eq_true, if_false]
  rw [List.filter_eq_self.2, List.filter_eq_self.2]
  · intro a ha; simp only [decide_eq_true_eq]; intro e; subst e; exact h2 ha
  · intro a ha; simp only [decide_eq_true_eq]; intro e; subst e; exact h3 a ha a (by simp) rfl

theorem remain_set {listed : Array Bool} (hs : listed.size = ops.size) {i : Nat} {pre post : List Nat} (h : remain ops listed = pre ++ i :: post) :
    remain ops (listed.setIfInBounds i true) = pre ++ post := by
  have hn : (remain ops listed).Nodup := List.Pairwise.filter _ List.nodup_range
  rw [← filter_split h hn]
  unfold remain
  rw [List.filter_filter]
  apply List.filter_congr
  intro k hk
  rw [List.mem_range] at hk
  by_cases hki : k = i
  · subst hki; simp [hs, hk]
  · simp [Array.getElem?_setIfInBounds_ne (Ne.symm hki), hki]

theorem ready_spec {listed : Array Bool} {i : Nat} (h : i ∈ Region.ready .any ops listed) : ∃ o, ops[i]? = some o ∧ i ∈ remain ops listed ∧ ∀ e ∈ o.after, Region.binds .any e = true → listed.getD e.on false = true := by
  unfold Region.ready at h
  obtain ⟨h1, h2⟩ := List.mem_filter.1 h
  simp only [Bool.and_eq_true] at h2
  obtain ⟨h2, h3⟩ := h2
  cases ho : ops[i]? with
  | none => simp [ho] at h3
  | some o =>
    refine ⟨o, rfl, List.mem_filter.2 ⟨h1, h2⟩, fun e he hb => ?_⟩
    simp only [ho, Option.map_some, Option.getD_some, Array.all_eq_true', Bool.or_eq_true, Bool.not_eq_true'] at h3
    rcases h3 e he with h | h
    · rw [hb] at h; simp at h
    · exact h

theorem ready_nil (he : edgesOK ops = true) {listed : Array Bool} (hs : listed.size = ops.size) (h : Region.ready .any ops listed = []) : remain ops listed = [] := by
  rw [List.eq_nil_iff_forall_not_mem]
  intro i
  induction i using Nat.strongRecOn with
  | ind i ih =>
    intro hi
    obtain ⟨h1, h2⟩ := List.mem_filter.1 hi
    have hlt := List.mem_range.1 h1
    have : i ∈ Region.ready .any ops listed := by
      unfold Region.ready
      refine List.mem_filter.2 ⟨h1, ?_⟩
      rw [Bool.and_eq_true]
      refine ⟨h2, ?_⟩
      simp only [Array.getElem?_eq_getElem hlt, Option.map_some, Option.getD_some, Array.all_eq_true', Bool.or_eq_true]
      intro e hee
      by_cases hbd : Region.binds .any e = true
      case neg => exact .inl (by simpa using hbd)
      refine .inr ?_
      have hon := edgesOK_spec he (Array.getElem?_eq_getElem hlt) hee hbd
      have := ih e.on hon
      cases hb : listed.getD e.on false with
      | true => rfl
      | false =>
        refine absurd (List.mem_filter.2 ⟨List.mem_range.2 (by omega), ?_⟩) this
        have hl : e.on < listed.size := by omega
        simp only [Array.getD_eq_getD_getElem?, Array.getElem?_eq_getElem hl, Option.getD_some] at hb ⊢
        simp [hb]
    rw [h] at this
    simp at this

theorem getD_set {listed : Array Bool} {i j : Nat} (h : (listed.setIfInBounds i true).getD j false = true) : j = i ∨ listed.getD j false = true := by
  by_cases e : j = i
  · exact .inl e
  · right
    rw [← h]
    simp only [Array.getD_eq_getD_getElem?, Array.getElem?_setIfInBounds_ne (Ne.symm e)]

theorem getD_set_mono {listed : Array Bool} {i j : Nat} (h : listed.getD j false = true) : (listed.setIfInBounds i true).getD j false = true := by
  have hj : j < listed.size := by
    rcases Nat.lt_or_ge j listed.size with h' | h'
    · exact h'
    · simp [Array.getD_eq_getD_getElem?, Array.getElem?_eq_none h'] at h
  by_cases e : i = j
  · subst e; simp [Array.getD_eq_getD_getElem?, hj]
  · simpa only [Array.getD_eq_getD_getElem?, Array.getElem?_setIfInBounds_ne e] using h

/-- In any order that the edges allow. -/
theorem any_ok (hm : FnSound C m) (hdst : dstsOK n ops = true) (hed : edgesOK ops = true) {K : Array Value → Prop} (hK : Stays ops K) {w0 : World} {E' : Env}
    (hf : ∀ tm' w' I' fp', Quiet w0 w' → SH g n E' (fun x => x < clk + 16 * ops.size) tm' w'.heap I' fp' [] → K tm' → Q .normal ⟨tm', ds⟩ w') :
    ∀ (fuel : Nat) {listed : Array Bool} {U : Nat → Prop} {tm : Array Value} {w : World} {E : Env} {I : Nat → Prop} {fp : Nat → List Nat},
    listed.size = ops.size → (remain ops listed).length ≤ fuel → Closed ops listed →
    SH g n E U tm w.heap I fp [] → (∀ x, U x → x < clk ∨ ∃ i, i < ops.size ∧ i ∉ remain ops listed ∧ clk + 16 * i ≤ x ∧ x < clk + 16 * i + 16) → Quiet w0 w → K tm →
    runL C m ops clk (remain ops listed) E = some E' → (feetL C m ops clk (remain ops listed) E).Pairwise (Loose (Region.before ops)) →
    wpAny C.P .any ops Q fuel listed ⟨tm, ds⟩ w := by
  have hend : ∀ {listed : Array Bool} {U : Nat → Prop} {tm : Array Value} {w : World} {E : Env} {I : Nat → Prop} {fp : Nat → List Nat}, remain ops listed = [] →
      SH g n E U tm w.heap I fp [] → (∀ x, U x → x < clk ∨ ∃ i, i < ops.size ∧ i ∉ remain ops listed ∧ clk + 16 * i ≤ x ∧ x < clk + 16 * i + 16) → Quiet w0 w → K tm →
      runL C m ops clk (remain ops listed) E = some E' → Q .normal ⟨tm, ds⟩ w := by
    intro listed U tm w E I fp hnil S hU hq hk hr
    rw [hnil] at hr
    simp only [runL, Option.some.injEq] at hr
    subst hr
    refine hf _ _ _ _ hq (S.widen fun x hx => ?_) hk
    rcases hU x hx with h | ⟨i, h1, _, h2, h3⟩ <;> omega
  intro fuel
  induction fuel with
  | zero =>
    intro listed U tm w E I fp hs hl hc S hU hq hk hr hp
    have hnil : remain ops listed = [] := List.length_eq_zero_iff.1 (by omega)
    refine ⟨?_, hend hnil S hU hq hk hr⟩
    rw [List.eq_nil_iff_forall_not_mem]
    intro i hi
    obtain ⟨_, _, h, _⟩ := ready_spec hi
    rw [hnil] at h
    simp at h
  | succ fuel ih =>
    intro listed U tm w E I fp hs hl hc S hU hq hk hr hp
    refine ⟨fun h => hend (ready_nil hed hs h) S hU hq hk hr, fun i hi => ?_⟩
    obtain ⟨o, ho, hmem, hpre⟩ := ready_spec hi
    obtain ⟨pre, post, hsplit⟩ := List.append_of_mem hmem
    have hrem := remain_set hs hsplit
    have hnd : (remain ops listed).Nodup := List.Pairwise.filter _ List.nodup_range
    have hbits : ∀ j ∈ pre, ((Region.before ops).getD i 0).testBit j = false := by
      intro j hj
      cases hb : ((Region.before ops).getD i 0).testBit j with
      | false => rfl
      | true =>
        have h1 := before_listed hc i ho hpre j hb
        have h2 : j ∈ remain ops listed := by rw [hsplit]; simp [hj]
        have h3 := (List.mem_filter.1 h2).2
        have hj : j < listed.size := by rw [hs]; exact List.mem_range.1 (List.mem_filter.1 h2).1
        simp only [Array.getD_eq_getD_getElem?, Array.getElem?_eq_getElem hj, Option.getD_some] at h1 h3
        rw [h1] at h3
        simp at h3
    rw [hsplit] at hr hp
    obtain ⟨o', u, E1, ho', h1, _, h3, h4⟩ := front pre E E' hr hp hbits
    rw [ho, Option.some.injEq] at ho'
    subst ho'
    have hi : i < ops.size := by
      rcases Nat.lt_or_ge i ops.size with h | h
      · exact h
      · simp [Array.getElem?_eq_none h] at ho
    refine wpOp_ok hm S ho (fun x a b c => ?_) (dstsOK_spec hdst ho) h1 hK hk ?_
    · rcases hU x c with h | ⟨j, _, hj, h5, h6⟩
      · omega
      · have : j = i := by omega
        subst this
        exact hj hmem
    rintro tm1 w1 ⟨hq1, I1, fp1, S1⟩ hk1
    refine ih (by simpa using hs) (by rw [hrem]; rw [hsplit] at hl; simp at hl ⊢; omega) ?_ S1 ?_ (hq.trans hq1) hk1 (by rw [hrem]; exact h3) (by rw [hrem]; exact List.Pairwise.sublist h4 hp)
    · intro j oj hj hoj e he hb
      rcases getD_set hj with h | h
      · subst h
        rw [ho, Option.some.injEq] at hoj
        subst hoj
        exact getD_set_mono (hpre e he hb)
      · exact getD_set_mono (hc j oj h hoj e he hb)
    · rintro x (hx | hx)
      · rcases hU x hx with h | ⟨j, a, b, c, d⟩
        · exact .inl h
        · refine .inr ⟨j, a, fun hj => b ?_, c, d⟩
          rw [hrem] at hj
          rw [hsplit]
          simp only [List.mem_append, List.mem_cons] at hj ⊢
          rcases hj with hj | hj
          · exact .inl hj
          · exact .inr (.inr hj)
      · refine .inr ⟨i, hi, ?_, hx.1, hx.2⟩
        rw [hrem]
        rw [hsplit, List.nodup_append, List.nodup_cons] at hnd
        intro hm'
        rcases List.mem_append.1 hm' with h | h
        · exact hnd.2.2 i h i (by simp) rfl
        · exact hnd.2.1.1 h

theorem opsP_runL : ∀ (l : List Oper) (i : Nat) (E : Env), ops.toList.drop i = l → opsP C m ops clk i l E = runL C m ops clk (List.range' i l.length) E ∧
    ((∃ E', opsP C m ops clk i l E = some E') → feetL C m ops clk (List.range' i l.length) E = ((feet C m ops clk i l E).zipIdx i).map Prod.swap ∧ (feet C m ops clk i l E).length = l.length)
  | [], i, E, _ => by simp [opsP, runL, feetL, feet]
  | o :: l, i, E, h => by
    have ho : ops[i]? = some o := by
      have := congrArg (·[0]?) h
      simpa using this
    have hl : ops.toList.drop (i + 1) = l := by
      have := congrArg List.tail h
      simpa [List.tail_drop] using this
    rw [List.length_cons, List.range'_succ]
    simp only [opsP, runL, feetL, feet, ho, Option.bind_some]
    cases hr : (guardP C m ops (clk + 16 * i) o).run E with
    | none => simp
    | some x =>
      obtain ⟨h1, h2⟩ := opsP_runL l (i + 1) x.2 hl
      simp only [Option.bind_some]
      refine ⟨h1, fun h => ?_⟩
      obtain ⟨h3, h4⟩ := h2 h
      refine ⟨?_, by simp [h4]⟩
      rw [h3, List.zipIdx_cons, List.map_cons]
      rfl

theorem and_zero {a b : Nat} (h : a &&& b = 0) (s : Nat) (ha : a.testBit s = true) : b.testBit s = false := by
  have := congrArg (·.testBit s) h
  simpa [Nat.testBit_and, ha] using this

theorem apart_loose {b : Array Nat} {fs : List (Nat × Nat)} (h : apart b fs = true) : ((fs.zipIdx 0).map Prod.swap).Pairwise (Loose b) := by
  rw [List.pairwise_iff_getElem]
  intro i j hi hj hij
  simp only [List.length_map, List.length_zipIdx] at hi hj
  simp only [List.getElem_map, List.getElem_zipIdx, Prod.swap_prod_mk, Nat.zero_add]
  unfold apart at h
  have h1 := List.all_eq_true.1 h (fs[j], j) (by rw [List.mem_zipIdx_iff_getElem?]; simp [hj])
  have h2 := List.all_eq_true.1 h1 (fs[i], i) (by rw [List.mem_zipIdx_iff_getElem?]; simp [hi])
  simp only [hij, decide_true, Bool.not_true, Bool.false_or, Bool.or_eq_true, Bool.and_eq_true, beq_iff_eq] at h2
  rcases h2 with h2 | ⟨h2, h3⟩
  · exact .inl h2
  · right
    intro s
    refine ⟨fun hs => ?_, fun hs => and_zero h3 s hs⟩
    have := and_zero h2 s hs
    simpa [Nat.testBit_or] using this

/-- A region that an edge binds, or none. -/
theorem region_ok (hm : FnSound C m) (hmix : C.P.follows .mixedOrders = true) (hdst : dstsOK n ops = true) (hed : edgesOK ops = true) {K : Array Value → Prop} (hK : Stays ops K) {id : Nat} {draw : Bool} {w0 : World} {E' : Env}
    {U : Nat → Prop} {tm : Array Value} {w : World} {E : Env} {I : Nat → Prop} {fp : Nat → List Nat}
    (S : SH g n E U tm w.heap I fp []) (hU : ∀ x, U x → x < clk) (hq : Quiet w0 w) (hk : K tm) (hr : regionP C m ops draw clk E = some E')
    (hf : ∀ tm' w' I' fp', Quiet w0 w' → SH g n E' (fun x => x < clk + 16 * ops.size) tm' w'.heap I' fp' [] → K tm' → Q .normal ⟨tm', ds⟩ w') :
    (Code.region id ops draw).wp C.P Q ⟨tm, ds⟩ w := by
  have hlen : ops.toList.length = ops.size := by simp
  unfold regionP at hr
  cases draw with
  | false =>
    simp only [Bool.false_eq_true, if_false] at hr
    rw [(opsP_runL ops.toList 0 E (by simp)).1, hlen] at hr
    refine wp_region ?_
    rw [List.range_eq_range']
    exact ops_ok hm hdst hK ops.size 0 S (by simpa using hU) hq hk hr (by simpa using hf)
  | true =>
    simp only [if_true] at hr
    split at hr
    case isFalse => simp at hr
    rename_i hap
    obtain ⟨h1, h2⟩ := opsP_runL (C := C) (m := m) (ops := ops) (clk := clk) ops.toList 0 E (by simp)
    obtain ⟨h3, _⟩ := h2 ⟨_, hr⟩
    rw [h1] at hr
    have hrem : remain ops (Array.replicate ops.size false) = List.range' 0 ops.toList.length := by
      unfold remain
      rw [← List.range_eq_range', hlen, List.filter_eq_self]
      intro i hi
      rw [List.mem_range] at hi
      simp [hi]
    refine wp_region_any hmix ?_
    refine any_ok hm hdst hed hK hf ops.size (w := { w with drawn := w.drawn + 1 }) (by simp) (by rw [hrem]; simp) ?_ S (fun x hx => .inl (hU x hx)) ⟨hq.os, hq.tape, hq.output⟩ hk (by rw [hrem]; exact hr) (by rw [hrem, h3]; exact apart_loose hap)
    intro j o hj
    simp only [Array.getD_eq_getD_getElem?, Array.getElem?_replicate] at hj
    split at hj <;> simp at hj
end

end Go.Lm

namespace Go.Lm
open Prg

section
variable {C : Ctx} {g : Gh} {n : Nat} {U : Nat → Prop} {tm : Array Value} {w : World}

theorem SH.perm {E : Env} {h : Heap} {I : Nat → Prop} {fp : Nat → List Nat} {H H' : List Nat} (S : SH g n E U tm h I fp H) (hp : H'.Perm H) : SH g n E U tm h I fp H' :=
  { S with hnodup := hp.symm.nodup S.hnodup, hnotI := fun b hb => S.hnotI b (hp.mem_iff.1 hb), hdisj := fun b hb => S.hdisj b (hp.mem_iff.1 hb),
           hlt := fun b hb => S.hlt b (hp.mem_iff.1 hb), hbase := fun b hb => S.hbase b (hp.mem_iff.1 hb) }

def resC (tm : Array Value) : ResultVar → Sem Value
  | .tmp t => pure (tm.getD t undef)
  | .cell a t => do loadVar t (← asAddr (tm.getD a undef))

theorem loadVar_box {b k : Nat} {cs : Array Value} {el : TypeId} {fr : Nat × Nat} {t : TypeId} (hh : w.heap[b]? = some (.cells cs el fr)) {ag : Bool} (hk : sizeT C.P t = some k) (hag : aggT C.P t = some ag) :
    (ag = true → k ≤ cs.size → (loadVar t ⟨b, 0, none⟩).run C.P w = .ok (.agg (cs.toList.take k).toArray) w) ∧
    (ag = false → ∀ v, cs[0]? = some v → (loadVar t ⟨b, 0, none⟩).run C.P w = .ok v w) := by
  constructor
  · intro h1 h2
    subst h1
    have h3 := loadCells_run (P := C.P) (off := 0) hh k (by omega)
    simp only [loadVar, Sem.run_bind, Sem.run_pure, Result.andThen_ok, isAgg_run hag, if_true, sizeOf_run hk, h3, List.drop_zero]
  · intro h1 v hv
    subst h1
    simp only [loadVar, Sem.run_bind, Result.andThen_ok, isAgg_run hag, Bool.false_eq_true, if_false, load_run hh hv]

theorem resP_ok : ∀ (rs : List ResultVar) {E : Env} {I : Nat → Prop} {fp : Nat → List Nat} {H : List Nat}, SH g n E U tm w.heap I fp H → ∀ {vs : List V} {E' : Env}, (resP C rs).run E = some (vs, E') →
    ∃ I' fp' bs cs, SH g n E' U tm w.heap I' fp' (bs ++ H) ∧ (∀ r, I r → I' r) ∧ RelL w.heap I' vs cs bs ∧ (rs.mapM (resC tm)).run C.P w = .ok cs w ∧ vs.length = rs.length
  | [], E, I, fp, H, S, vs, E', hr => by
    have := run_pure_some hr
    simp only [Prod.mk.injEq] at this
    obtain ⟨rfl, rfl⟩ := this
    exact ⟨I, fp, [], [], by simpa using S, fun _ h => h, .nil, rfl, rfl⟩
  | .tmp t :: rs, E, I, fp, H, S, vs, E', hr => by
    simp only [resP] at hr
    obtain ⟨b, E1, e1, hr1⟩ := run_bind_some hr
    obtain ⟨rfl, rb, sb, nb⟩ := ev_ok S e1
    obtain ⟨⟨ow, v⟩, E2, e2, hr2⟩ := run_bind_some hr1
    obtain ⟨I2, fp2, b2, S2, hI2, _, r2, _, _⟩ := takeB_ok S sb rb e2
    obtain ⟨vs', E3, e3, hr3⟩ := run_bind_some hr2
    obtain ⟨I3, fp3, b3, cs, S3, hI3, r3, hm, hvl⟩ := resP_ok rs S2 e3
    have := run_pure_some hr3
    simp only [Prod.mk.injEq] at this
    obtain ⟨rfl, rfl⟩ := this
    refine ⟨I3, fp3, b2 ++ b3, _ :: cs, S3.perm ?_, fun r h => hI3 r (hI2 r h), .cons _ _ _ _ _ _ (RelV.mono hI3 r2 fun _ _ => rfl) r3, ?_, by simp [hvl]⟩
    · rw [← List.append_assoc]; exact List.Perm.append_right H List.perm_append_comm
    · simp only [List.mapM_cons, resC, Sem.run_bind, Sem.run_pure, Result.andThen_ok, hm]; rfl
  | .cell a t :: rs, E, I, fp, H, S, vs, E', hr => by
    simp only [resP] at hr
    obtain ⟨k, E1, e1, hr1⟩ := run_bind_some hr
    obtain ⟨hk, rfl⟩ := run_opt_some' e1
    obtain ⟨ag, E2, e2, hr2⟩ := run_bind_some hr1
    obtain ⟨hag, rfl⟩ := run_opt_some' e2
    obtain ⟨b, E3, e3, hr3⟩ := run_bind_some hr2
    obtain ⟨rfl, rb, sb, nb⟩ := ev_ok S e3
    simp only at hk hag
    split at hr3
    case h_2 => simp [run_fail] at hr3
    rename_i s st ct
    obtain ⟨x, E4, e4, hr4⟩ := run_bind_some hr3
    obtain ⟨hx, rfl⟩ := run_rdAt_some e4
    simp only at hx
    split at hr4
    case h_2 => simp [run_fail] at hr4
    rename_i y
    obtain ⟨u1, E5, e5, hr5⟩ := run_bind_some hr4
    obtain ⟨hneed, rfl⟩ := run_need_some e5
    simp only [Bool.and_eq_true, beq_iff_eq, decide_eq_true_eq] at hneed
    obtain ⟨hisag, hlen⟩ := hneed
    obtain ⟨u2, E6, e6, hr6⟩ := run_bind_some hr5
    simp only [run_setS, Option.some.injEq, Prod.mk.injEq] at e6
    obtain ⟨_, rfl⟩ := e6
    obtain ⟨ct', v0, c', h1, h2, h3, h4, h5, h6, _⟩ := S.at hx
    simp only [V.get, Option.some.injEq] at h3
    subst h3
    have hown := S.own h1
    obtain ⟨hb1, hvalid⟩ : ([] : List Nat) = [] ∧ Valid E w.heap tm s st ct [] (fun _ cn => evc tm (.tmp a) = cn) := rb
    have hcc : evc tm (.tmp a) = tmf tm s := hvalid ct' _ _ (tmf tm s) h1 (.inl rfl) rfl (.inl rfl) rfl
    have S2 := S.empty h1
    generalize hfps : fp s = bx at hown S2
    generalize htms : tmf tm s = cx at hown hcc
    cases hown with
    | box _ b cs el fr bs hh hf hl hv =>
    obtain ⟨vs', E7, e7, hr7⟩ := run_bind_some hr6
    have S3 := S2.drop (H' := bs ++ H) (List.sublist_cons_self _ _)
    obtain ⟨I3, fp3, b3, cs', S4, hI3, r3, hm, hvl⟩ := resP_ok rs S3 e7
    have := run_pure_some hr7
    simp only [Prod.mk.injEq] at this
    obtain ⟨rfl, rfl⟩ := this
    obtain ⟨l1, l2⟩ := loadVar_box (C := C) (w := w) hh hk hag
    have hcl : cs.toList.length = k := by rw [← hlen]; exact hl.length.symm
    have hcell : ∃ c, (resC tm (.cell a t)).run C.P w = .ok c w ∧ RelV w.heap I3 y c bs := by
      have haddr : tm.getD a undef = .pointer (some ⟨b, 0, none⟩) := hcc
      cases ag with
      | true =>
        have hrun := l1 rfl (by rw [← hcl]; simp)
        rw [List.take_of_length_le (by omega)] at hrun
        refine ⟨.agg cs, ?_, ?_⟩
        · simp only [resC, haddr, asAddr, Sem.run_bind, Sem.run_pure, Result.andThen_ok, hrun]
        · cases y <;> simp [V.isAgg] at hisag
          rename_i ys
          exact .agg _ _ _ (by simpa [V.cells] using RelL.mono hI3 hl fun _ _ => rfl)
      | false =>
        have hy := V.cells_one hisag
        rw [hy] at hl
        generalize hcs : cs.toList = l at hl
        cases hl with
        | cons _ c b1 _ cs2 b2 r1 r2 =>
        cases r2
        have hc0 : cs[0]? = some c := by rw [← Array.getElem?_toList, hcs]; rfl
        refine ⟨c, ?_, ?_⟩
        · simp only [resC, haddr, asAddr, Sem.run_bind, Sem.run_pure, Result.andThen_ok, l2 rfl c hc0]
        · simpa using RelV.mono (h' := w.heap) hI3 r1 fun _ _ => rfl
    obtain ⟨c, hc1, hc2⟩ := hcell
    refine ⟨I3, fp3, bs ++ b3, c :: cs', S4.perm ?_, hI3, .cons _ _ _ _ _ _ hc2 r3, ?_, by simp [hvl]⟩
    · rw [← List.append_assoc]; exact List.Perm.append_right H List.perm_append_comm
    · simp only [List.mapM_cons, Sem.run_bind, hc1, Sem.run_pure, Result.andThen_ok, hm]

theorem outP_ok {E : Env} {I : Nat → Prop} {fp : Nat → List Nat} {H : List Nat} (S : SH g n E U tm w.heap I fp H) : ∀ (mt : List Bool) (i : Nat) (cs : List Value), mt.length ≤ cs.length → (∀ j, mt.getD j false = true → tmf tm (i + j) = cs.getD j undef) →
    ∀ {os : List V} {E' : Env}, (outP i mt).run E = some (os, E') → ∃ bs, RelL w.heap I os (lentC mt cs) bs ∧ bs.Nodup ∧ ∀ b ∈ bs, ∃ s, i ≤ s ∧ b ∈ fp s
  | [], i, cs, _, _, os, E', hr => by
    have := run_pure_some hr
    simp only [Prod.mk.injEq] at this
    obtain ⟨rfl, _⟩ := this
    rw [lentC_nil]
    exact ⟨[], .nil, by simp, by simp⟩
  | _ :: _, _, [], hl, _, _, _, _ => by simp at hl
  | false :: mt, i, c :: cs, hl, hk, os, E', hr => by
    simp only [outP] at hr
    obtain ⟨bs, r, hn, hb⟩ := outP_ok S mt (i + 1) cs (by simpa using hl) (fun j hj => by
      have := hk (j + 1) (by simpa using hj)
      rw [Nat.add_assoc, Nat.add_comm 1 j]; simpa using this) hr
    exact ⟨bs, by simpa [lentC] using r, hn, fun b h => let ⟨s, h1, h2⟩ := hb b h; ⟨s, by omega, h2⟩⟩
  | true :: mt, i, c :: cs, hl, hk, os, E', hr => by
    have hc : tmf tm i = c := by simpa using hk 0 (by simp)
    have ih := fun {os' : List V} {E' : Env} => outP_ok S mt (i + 1) cs (by simpa using hl) (fun j hj => by
      have := hk (j + 1) (by simpa using hj)
      rw [Nat.add_assoc, Nat.add_comm 1 j]; simpa using this) (os := os') (E' := E')
    have hlent : lentC (true :: mt) (c :: cs) = c :: lentC mt cs := by simp [lentC]
    rw [hlent]
    simp only [outP] at hr
    obtain ⟨b, E1, e1, hr1⟩ := run_bind_some hr
    simp only [run_getS, Option.some.injEq, Prod.mk.injEq] at e1
    obtain ⟨rfl, rfl⟩ := e1
    have hany : ∀ {vs : List V} {E2 : Env}, ((do let vs ← outP (i + 1) mt; pure (V.any :: vs)) : Prg (List V)).run E = some (vs, E2) →
        ∃ bs, RelL w.heap I vs (c :: lentC mt cs) bs ∧ bs.Nodup ∧ ∀ b ∈ bs, ∃ s, i ≤ s ∧ b ∈ fp s := by
      intro vs E2 h
      obtain ⟨vs', E3, e3, h3⟩ := run_bind_some h
      have := run_pure_some h3
      simp only [Prod.mk.injEq] at this
      obtain ⟨rfl, rfl⟩ := this
      obtain ⟨bs, r, hn, hb⟩ := ih e3
      exact ⟨bs, .cons _ _ [] _ _ _ (.any _) r, hn, fun b h => let ⟨s, h1, h2⟩ := hb b h; ⟨s, by omega, h2⟩⟩
    split at hr1
    · rename_i st ct v heq
      split at hr1
      · obtain ⟨vs', E3, e3, h3⟩ := run_bind_some hr1
        have := run_pure_some h3
        simp only [Prod.mk.injEq] at this
        obtain ⟨rfl, rfl⟩ := this
        obtain ⟨bs, r, hn, hb⟩ := ih e3
        have hown := S.own heq
        rw [hc] at hown
        refine ⟨fp i ++ bs, .cons _ _ _ _ _ _ hown r, ?_, ?_⟩
        · rw [List.nodup_append]
          refine ⟨S.nodup i, hn, fun a ha b hb' e => ?_⟩
          subst e
          obtain ⟨s, h1, h2⟩ := hb a hb'
          exact S.disj i s (by omega) a ha h2
        · intro b hb'
          rcases List.mem_append.1 hb' with h | h
          · exact ⟨i, Nat.le_refl _, h⟩
          · obtain ⟨s, h1, h2⟩ := hb b h; exact ⟨s, by omega, h2⟩
      · exact hany hr1
    · exact hany hr1

def Kept (mt : List Bool) (cargs : List Value) (tm : Array Value) : Prop := ∀ j, mt.getD j false = true → tmf tm j = cargs.getD j undef

/-- How a body ends well. -/
def Done (C : Ctx) (f : FuncId) (fn : Func) (g : Gh) (w0 : World) (cargs : List Value) (outs : List V) (tm : Array Value) (w : World) : Prop :=
  ∃ v I' b1 b2, (results fn tm).run C.P w = .ok v w ∧ Quiet w0 w ∧ g.h0.size ≤ w.heap.size ∧ (∀ r, r < g.h0.size → r ∉ g.bs0 → w.heap[r]? = g.h0[r]?) ∧
    (∀ r, g.I0 r → I' r) ∧ (∀ r, I' r → g.I0 r ∨ r ∈ g.bs0 ∨ g.h0.size ≤ r) ∧ (∀ r, I' r → r < w.heap.size) ∧
    RelV w.heap I' (packR (outs.take fn.resultTypes.size)) v b1 ∧ RelL w.heap I' (outs.drop fn.resultTypes.size) (lentC (C.mt f) cargs) b2 ∧
    (b1 ++ b2).Nodup ∧ (∀ r ∈ b1 ++ b2, ¬ I' r ∧ (r ∈ g.bs0 ∨ g.h0.size ≤ r))

def oneC : List Value → Value
  | [c] => c
  | cs => .tuple cs.toArray

theorem results_run {fn : Func} {cs : List Value} (h : (fn.results.toList.mapM (resC tm)).run C.P w = .ok cs w) :
    (results fn tm).run C.P w = .ok (oneC cs) w := by
  have hf : results fn tm = (fn.results.mapM (resC tm) >>= fun vs => pure (if h : vs.size = 1 then vs[0] else .tuple vs)) := by
    unfold results
    congr 1
  have h2 : (fn.results.mapM (resC tm)).run C.P w = .ok cs.toArray w := by
    rw [Array.mapM_eq_mapM_toList, Sem.run_map, h]; rfl
  rw [hf, Sem.run_bind, h2, Result.andThen_ok, Sem.run_pure]
  congr 1
  match cs with
  | [] => rfl
  | [c] => rfl
  | _ :: _ :: _ => simp [oneC]

theorem packC {h : Heap} {I : Nat → Prop} {vs : List V} {cs : List Value} {bs : List Nat} (hr : RelL h I vs cs bs) : RelV h I (packR vs) (oneC cs) bs := by
  cases hr with
  | nil => exact .tup _ _ _ .nil
  | cons v c b1 vs cs b2 h1 h2 =>
    cases h2 with
    | nil => simpa [packR, oneC] using h1
    | cons v' c' b1' vs' cs' b2' h1' h2' => exact .tup _ _ _ (.cons _ _ _ _ _ _ h1 (.cons _ _ _ _ _ _ h1' h2'))

theorem fin_ok {E : Env} {I : Nat → Prop} {fp : Nat → List Nat} (S : SH g n E U tm w.heap I fp []) {f : FuncId} {fn : Func} (hfn : C.P.funcs[f]? = some fn) {w0 : World} (hq : Quiet w0 w) {cargs : List Value}
    (hml : (C.mt f).length ≤ cargs.length) (hk : Kept (C.mt f) cargs tm) {outs : List V} (hr : fin C f E = some outs) : Done C f fn g w0 cargs outs tm w := by
  simp only [fin, hfn, Option.bind_some, Option.map_eq_some_iff] at hr
  obtain ⟨⟨outs', E'⟩, hr, rfl⟩ := hr
  unfold finP at hr
  obtain ⟨u, E0, e0, hr0⟩ := run_bind_some hr
  obtain ⟨hsz, rfl⟩ := run_need_some e0
  simp only [decide_eq_true_eq] at hsz
  obtain ⟨rs, E1, e1, hr1⟩ := run_bind_some hr0
  obtain ⟨I1, fp1, b1, cs, S1, hI1, r1, hm, hvl⟩ := resP_ok _ S e1
  rw [List.append_nil] at S1
  obtain ⟨os, E2, e2, hr2⟩ := run_bind_some hr1
  obtain ⟨b2, r2, hn2, hb2⟩ := outP_ok S1 (C.mt f) 0 cargs hml (by simpa [Kept] using hk) e2
  have := run_pure_some hr2
  simp only [Prod.mk.injEq] at this
  obtain ⟨rfl, rfl⟩ := this
  have hlen : rs.length = fn.resultTypes.size := by rw [← hsz, hvl, Array.length_toList]
  refine ⟨_, I1, b1, b2, results_run hm, hq, S1.grow, S1.frame, S1.i0, S1.ibase, S1.ilt, ?_, ?_, ?_, ?_⟩
  · rw [List.take_left' hlen]; exact packC r1
  · rw [List.drop_left' hlen]; exact r2
  · rw [List.nodup_append]
    refine ⟨S1.hnodup, hn2, fun a ha b hb e => ?_⟩
    subst e
    obtain ⟨s, _, h⟩ := hb2 a hb
    exact S1.hdisj a ha s h
  · intro r hr
    rcases List.mem_append.1 hr with h | h
    · exact ⟨S1.hnotI r h, S1.hbase r h⟩
    · obtain ⟨s, _, h⟩ := hb2 r h
      exact ⟨S1.notI s r h, S1.base s r h⟩
end

end Go.Lm

namespace Go.Lm
open Prg

theorem exitTo_code {id : Nat} {c : Code} {k : List Item} : exitTo id (.code c :: k) = exitTo id k := rfl
theorem exitTo_inLoop {id : Nat} {c : Code} {k : List Item} : exitTo id (.inLoop c :: k) = exitTo id k := rfl
theorem exitTo_inBlock {id j : Nat} {k : List Item} : exitTo id (.inBlock j :: k) = if id = j then some k else exitTo id k := by
  by_cases h : id = j
  · subst h; simp [exitTo]
  · have h' : ¬ j = id := fun e => h e.symm
    simp [exitTo, h, h']

/-- Where a region stands when the body's walk comes to it. -/
inductive At : Code → List Item → Nat → Array Oper → Bool → List Item → Prop
  | region (id : Nat) (ops : Array Oper) (draw : Bool) (k : List Item) : At (.region id ops draw) k id ops draw k
  | seqL (a b : Code) (k : List Item) (id : Nat) (ops : Array Oper) (draw : Bool) (k' : List Item) (h : At a (.code b :: k) id ops draw k') : At (.seq a b) k id ops draw k'
  | seqR (a b : Code) (k : List Item) (id : Nat) (ops : Array Oper) (draw : Bool) (k' : List Item) (h : At b k id ops draw k') : At (.seq a b) k id ops draw k'
  | condL (c : Operand) (a b : Code) (k : List Item) (id : Nat) (ops : Array Oper) (draw : Bool) (k' : List Item) (h : At a k id ops draw k') : At (.cond c a b) k id ops draw k'
  | condR (c : Operand) (a b : Code) (k : List Item) (id : Nat) (ops : Array Oper) (draw : Bool) (k' : List Item) (h : At b k id ops draw k') : At (.cond c a b) k id ops draw k'
  | block (j : Nat) (c : Code) (k : List Item) (id : Nat) (ops : Array Oper) (draw : Bool) (k' : List Item) (h : At c (.inBlock j :: k) id ops draw k') : At (.block j c) k id ops draw k'
  | loop (c : Code) (k : List Item) (id : Nat) (ops : Array Oper) (draw : Bool) (k' : List Item) (h : At c (.inLoop c :: k) id ops draw k') : At (.loop c) k id ops draw k'

def ids : Code → List Nat
  | .region id _ _ => [id]
  | .seq a b => ids a ++ ids b
  | .cond _ a b => ids a ++ ids b
  | .block _ c => ids c
  | .loop c => ids c
  | _ => []

theorem At.mem {c : Code} {k : List Item} {id : Nat} {ops : Array Oper} {draw : Bool} {k' : List Item} (h : At c k id ops draw k') : id ∈ ids c := by
  induction h with
  | region => simp [ids]
  | seqL _ _ _ _ _ _ _ _ ih => simp [ids, ih]
  | seqR _ _ _ _ _ _ _ _ ih => simp [ids, ih]
  | condL _ _ _ _ _ _ _ _ _ ih => simp [ids, ih]
  | condR _ _ _ _ _ _ _ _ _ ih => simp [ids, ih]
  | block _ _ _ _ _ _ _ _ ih => simpa [ids] using ih
  | loop _ _ _ _ _ _ _ ih => simpa [ids] using ih

/-- What a body's text must keep. -/
def okC (n : Nat) (mt : List Bool) : Code → Bool
  | .region _ ops _ => dstsOK n ops && edgesOK ops && ops.all fun o => match o.dst with | some d => !(mt.getD d false) | none => true
  | .seq a b => okC n mt a && okC n mt b
  | .cond _ a b => okC n mt a && okC n mt b
  | .block _ c => okC n mt c
  | .loop c => okC n mt c
  | _ => true

theorem At.ok {n : Nat} {mt : List Bool} {c : Code} {k : List Item} {id : Nat} {ops : Array Oper} {draw : Bool} {k' : List Item} (h : At c k id ops draw k') (ho : okC n mt c = true) : okC n mt (.region id ops draw) = true := by
  induction h with
  | region => exact ho
  | seqL _ _ _ _ _ _ _ _ ih => simp only [okC, Bool.and_eq_true] at ho; exact ih ho.1
  | seqR _ _ _ _ _ _ _ _ ih => simp only [okC, Bool.and_eq_true] at ho; exact ih ho.2
  | condL _ _ _ _ _ _ _ _ _ ih => simp only [okC, Bool.and_eq_true] at ho; exact ih ho.1
  | condR _ _ _ _ _ _ _ _ _ ih => simp only [okC, Bool.and_eq_true] at ho; exact ih ho.2
  | block _ _ _ _ _ _ _ _ ih => simp only [okC] at ho; exact ih ho
  | loop _ _ _ _ _ _ _ ih => simp only [okC] at ho; exact ih ho

section
variable {C : Ctx} {m : Sem_} {f : FuncId} {fn : Func} {g : Gh} {w0 : World} {cargs : List Value} {b : Frame} {cs : List Frame}

/-- From here the body ends well. -/
def Ends (C : Ctx) (f : FuncId) (fn : Func) (g : Gh) (w0 : World) (cargs : List Value) (b : Frame) (cs : List Frame) (outs : List V) (m0 : Machine) : Prop :=
  ∃ tm w todo, Steps C.P m0 (lone { b.at ⟨tm, []⟩ todo with mode := .returning } cs w) ∧ Done C f fn g w0 cargs outs tm w

theorem Ends.of_steps {outs : List V} {m0 m1 : Machine} (h : Steps C.P m0 m1) (h' : Ends C f fn g w0 cargs b cs outs m1) : Ends C f fn g w0 cargs b cs outs m0 := by
  obtain ⟨tm, w, todo, h1, h2⟩ := h'
  exact ⟨tm, w, todo, h.trans h1, h2⟩

def Good (C : Ctx) (f : FuncId) (fn : Func) (g : Gh) (w0 : World) (cargs : List Value) (b : Frame) (cs : List Frame) (k : Kont) (todo : List Item) : Prop :=
  ∀ clk E outs tm w U I fp, k clk E = some outs → SH g fn.ntmps E U tm w.heap I fp [] → (∀ x, U x → x < clk) → Quiet w0 w → Kept (C.mt f) cargs tm →
    Ends C f fn g w0 cargs b cs outs (lone (b.at ⟨tm, []⟩ todo) cs w)

def GoodX (C : Ctx) (f : FuncId) (fn : Func) (g : Gh) (w0 : World) (cargs : List Value) (b : Frame) (cs : List Frame) (x : Nat → Kont) (todo : List Item) : Prop :=
  ∀ id, (∀ clk E, x id clk E = none) ∨ ∃ k', exitTo id todo = some k' ∧ Good C f fn g w0 cargs b cs (x id) k'

/-- The behaviour of 'm' behind the cuts of a body is kept. -/
def CutOk (C : Ctx) (m : Sem_) (f : FuncId) (fn : Func) (body : Code) (g : Gh) (w0 : World) (cargs : List Value) (b : Frame) (cs : List Frame) : Prop :=
  ∀ id lv ops draw k', (C.cuts f).lookup id = some lv → At body [] id ops draw k' → Good C f fn g w0 cargs b cs (fun _ E => cut m f id lv E) (.code (.region id ops draw) :: k')

theorem region_good (hm : FnSound C m) (hmix : C.P.follows .mixedOrders = true) {id : Nat} {ops : Array Oper} {draw : Bool} {k : List Item} {kk : Kont} (ho : okC fn.ntmps (C.mt f) (.region id ops draw) = true)
    (hk : Good C f fn g w0 cargs b cs kk k) :
    Good C f fn g w0 cargs b cs (fun clk E => (regionP C m ops draw clk E).bind fun E' => kk (clk + 16 * ops.size) E') (.code (.region id ops draw) :: k) := by
  intro clk E outs tm w U I fp he S hU hq hkept
  simp only [okC, Bool.and_eq_true] at ho
  obtain ⟨⟨hd, hed⟩, hkeep⟩ := ho
  rw [Option.bind_eq_some_iff] at he
  obtain ⟨E', hr, he⟩ := he
  have hst : Stays ops (Kept (C.mt f) cargs) := by
    intro i o ho tm c h j hj
    cases hod : o.dst with
    | none => simpa [putTm, hod] using h j hj
    | some d =>
      have h1 := (Array.all_eq_true'.1 hkeep) o (Array.mem_of_getElem? ho)
      simp only [hod, Bool.not_eq_true'] at h1
      have hne : d ≠ j := by
        intro e; subst e; rw [hj] at h1; simp at h1
      simp only [putTm, hod] at *
      rw [← h j hj]
      unfold tmf
      simp only [Array.getD_eq_getD_getElem?, Array.getElem?_setIfInBounds_ne hne]
  have hwp := region_ok (Q := fun e a w' => e = .normal ∧ a.defers = [] ∧ ∃ I' fp', Quiet w0 w' ∧ SH g fn.ntmps E' (fun x => x < clk + 16 * ops.size) a.tmps w'.heap I' fp' [] ∧ Kept (C.mt f) cargs a.tmps)
    (ds := []) (id := id) hm hmix hd hed hst S hU hq hkept hr (fun tm' w' I' fp' h1 h2 h3 => ⟨rfl, rfl, I', fp', h1, h2, h3⟩)
  obtain ⟨e, ⟨tm', ds'⟩, w', ⟨rfl, hds, I', fp', h1, h2, h3⟩, harr⟩ := hwp b k cs
  simp only at hds
  subst hds
  exact Ends.of_steps harr (hk _ _ _ _ _ _ _ _ he h2 (fun _ h => h) h1 h3)

theorem Good.step {kk : Kont} {k k' : List Item} (h : Good C f fn g w0 cargs b cs kk k') (hs : ∀ a w, Steps C.P (lone (b.at a k) cs w) (lone (b.at a k') cs w)) : Good C f fn g w0 cargs b cs kk k :=
  fun clk E outs tm w U I fp he S hU hq hk => .of_steps (hs _ _) (h clk E outs tm w U I fp he S hU hq hk)

theorem firstId_at : ∀ (c : Code) (k : List Item) {id : Nat}, firstId c = some id → ∃ ops draw k', At c k id ops draw k' ∧ ∀ (P : Program) (b : Frame) (cs : List Frame) a w, Steps P (lone (b.at a (.code c :: k)) cs w) (lone (b.at a (.code (.region id ops draw) :: k')) cs w)
  | .region id ops draw, k, _, h => by
    simp only [firstId, Option.some.injEq] at h
    subst h
    exact ⟨ops, draw, k, .region _ _ _ _, fun P b cs a w => .refl _ _⟩
  | .block j c, k, id, h => by
    obtain ⟨ops, draw, k', h1, h2⟩ := firstId_at c (.inBlock j :: k) (id := id) (by simpa [firstId] using h)
    exact ⟨ops, draw, k', .block _ _ _ _ _ _ _ h1, fun P b cs a w => .head step_block (h2 P b cs a w)⟩
  | .loop c, k, id, h => by
    obtain ⟨ops, draw, k', h1, h2⟩ := firstId_at c (.inLoop c :: k) (id := id) (by simpa [firstId] using h)
    exact ⟨ops, draw, k', .loop _ _ _ _ _ _ h1, fun P b cs a w => .head step_loop (h2 P b cs a w)⟩
  | .seq x y, k, id, h => by
    by_cases hx : x = .skip
    · subst hx
      obtain ⟨ops, draw, k', h1, h2⟩ := firstId_at y k (id := id) (by simpa [firstId] using h)
      exact ⟨ops, draw, k', .seqR _ _ _ _ _ _ _ h1, fun P b cs a w => .head step_seq (.head step_skip (h2 P b cs a w))⟩
    · obtain ⟨ops, draw, k', h1, h2⟩ := firstId_at x (.code y :: k) (id := id) (by
        cases x <;> first | exact absurd rfl hx | exact h)
      exact ⟨ops, draw, k', .seqL _ _ _ _ _ _ _ h1, fun P b cs a w => .head step_seq (h2 P b cs a w)⟩
  | .skip, _, _, h => by simp [firstId] at h
  | .cond _ _ _, _, _, h => by simp [firstId] at h
  | .exit _, _, _, h => by simp [firstId] at h
  | .ret, _, _, h => by simp [firstId] at h
  | .label _, _, _, h => by simp [firstId] at h
  | .goto _, _, _, h => by simp [firstId] at h
  | .scope _, _, _, h => by simp [firstId] at h
  | .rangeFunc _ _ _ _, _, _, h => by simp [firstId] at h
  | .refuse _, _, _, h => by simp [firstId] at h

def Within (body : Code) (c : Code) (k : List Item) : Prop := ∀ id ops draw k', At c k id ops draw k' → At body [] id ops draw k'

theorem loop_good {body c : Code} {k : List Item} (hc : CutOk C m f fn body g w0 cargs b cs) (hin : Within body (.loop c) k) (kk : Kont) (x : Nat → Kont) :
    Good C f fn g w0 cargs b cs (runC C m f (.loop c) kk x) (.code c :: .inLoop c :: k) := by
  intro clk E outs tm w U I fp he S hU hq hkept
  simp only [runC] at he
  cases hid : firstId c with
  | none => simp [hid] at he
  | some id =>
    simp only [hid] at he
    cases hlv : (C.cuts f).lookup id with
    | none => simp [hlv] at he
    | some lv =>
      simp only [hlv] at he
      obtain ⟨ops, draw, k', h1, h2⟩ := firstId_at c (.inLoop c :: k) hid
      exact .of_steps (h2 _ _ _ _ _) (hc id lv ops draw k' hlv (hin _ _ _ _ (.loop _ _ _ _ _ _ h1)) clk E outs tm w U I fp he S hU hq hkept)

theorem runC_ok (hm : FnSound C m) (hmix : C.P.follows .mixedOrders = true) (hfn : C.P.funcs[f]? = some fn) (hml : (C.mt f).length ≤ cargs.length) {body : Code} (hc : CutOk C m f fn body g w0 cargs b cs) :
    ∀ (c : Code) (k : List Item) (kk : Kont) (x : Nat → Kont), okC fn.ntmps (C.mt f) c = true → Within body c k → Good C f fn g w0 cargs b cs kk k → GoodX C f fn g w0 cargs b cs x k →
      Good C f fn g w0 cargs b cs (runC C m f c kk x) (.code c :: k)
  | .skip, k, kk, x, ho, hin, hk, hx => hk.step fun a w => .one step_skip
  | .region id ops draw, k, kk, x, ho, hin, hk, hx => by
    intro clk E outs tm w U I fp he S hU hq hkept
    simp only [runC] at he
    cases hlv : (C.cuts f).lookup id with
    | none =>
      simp only [hlv] at he
      exact region_good hm hmix ho hk clk E outs tm w U I fp he S hU hq hkept
    | some lv =>
      simp only [hlv] at he
      exact hc id lv ops draw k hlv (hin _ _ _ _ (.region _ _ _ _)) clk E outs tm w U I fp he S hU hq hkept
  | .seq a c, k, kk, x, ho, hin, hk, hx => by
    simp only [okC, Bool.and_eq_true] at ho
    have h2 := runC_ok hm hmix hfn hml hc c k kk x ho.2 (fun _ _ _ _ h => hin _ _ _ _ (.seqR _ _ _ _ _ _ _ h)) hk hx
    have h1 := runC_ok hm hmix hfn hml hc a (.code c :: k) _ x ho.1 (fun _ _ _ _ h => hin _ _ _ _ (.seqL _ _ _ _ _ _ _ h)) h2 hx
    exact Good.step (show Good C f fn g w0 cargs b cs (runC C m f (.seq a c) kk x) (.code a :: .code c :: k) from h1) fun a w => .one step_seq
  | .cond o a c, k, kk, x, ho, hin, hk, hx => by
    simp only [okC, Bool.and_eq_true] at ho
    have h1 := runC_ok hm hmix hfn hml hc a k kk x ho.1 (fun _ _ _ _ h => hin _ _ _ _ (.condL _ _ _ _ _ _ _ _ h)) hk hx
    have h2 := runC_ok hm hmix hfn hml hc c k kk x ho.2 (fun _ _ _ _ h => hin _ _ _ _ (.condR _ _ _ _ _ _ _ _ h)) hk hx
    intro clk E outs tm w U I fp he S hU hq hkept
    simp only [runC] at he
    split at he
    case h_2 => simp at he
    rename_i t heq
    rw [Option.map_eq_some_iff] at heq
    obtain ⟨⟨v, E1⟩, hev, hv⟩ := heq
    simp only at hv
    subst hv
    obtain ⟨_, hrel⟩ := evV_ok S hev
    have hval : (⟨tm, []⟩ : Act).eval o = .bool t := by
      rw [eval_evc]
      exact rel_bool hrel
    refine .of_steps (.one (step_cond hval)) ?_
    cases t with
    | true => exact h1 clk E outs tm w U I fp (by simpa using he) S hU hq hkept
    | false => exact h2 clk E outs tm w U I fp (by simpa using he) S hU hq hkept
  | .block id c, k, kk, x, ho, hin, hk, hx => by
    simp only [okC] at ho
    have h1 := runC_ok hm hmix hfn hml hc c (.inBlock id :: k) kk (fun i => if i = id then kk else x i) ho (fun _ _ _ _ h => hin _ _ _ _ (.block _ _ _ _ _ _ _ h)) (hk.step fun a w => .one step_inBlock) (by
      intro i
      by_cases hi : i = id
      · subst hi
        exact .inr ⟨k, by simp [exitTo_inBlock], by simpa using hk⟩
      · rcases hx i with h | ⟨k', h1, h2⟩
        · exact .inl (by simpa [hi] using h)
        · exact .inr ⟨k', by simp [exitTo_inBlock, hi, h1], by simpa [hi] using h2⟩)
    exact Good.step (show Good C f fn g w0 cargs b cs (runC C m f (.block id c) kk x) (.code c :: .inBlock id :: k) from h1) fun a w => .one step_block
  | .loop c, k, kk, x, ho, hin, hk, hx => (loop_good hc hin kk x).step fun a w => .one step_loop
  | .exit id, k, kk, x, ho, hin, hk, hx => by
    intro clk E outs tm w U I fp he S hU hq hkept
    simp only [runC] at he
    rcases hx id with h | ⟨k', h1, h2⟩
    · rw [h] at he; simp at he
    · exact .of_steps (.one (step_exit (by rw [← h1]))) (h2 clk E outs tm w U I fp he S hU hq hkept)
  | .ret, k, kk, x, ho, hin, hk, hx => by
    intro clk E outs tm w U I fp he S hU hq hkept
    simp only [runC] at he
    exact ⟨tm, w, _, .one step_ret, fin_ok S hfn hq hml hkept he⟩
  | .label _, _, _, _, _, _, _, _ => by intro clk E outs tm w U I fp he; simp [runC] at he
  | .goto _, _, _, _, _, _, _, _ => by intro clk E outs tm w U I fp he; simp [runC] at he
  | .scope _, _, _, _, _, _, _, _ => by intro clk E outs tm w U I fp he; simp [runC] at he
  | .rangeFunc _ _ _ _, _, _, _, _, _, _, _ => by intro clk E outs tm w U I fp he; simp [runC] at he
  | .refuse _, _, _, _, _, _, _, _ => by intro clk E outs tm w U I fp he; simp [runC] at he
end

end Go.Lm
