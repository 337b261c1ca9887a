/- Who follows, who comes ahead, as the laws ask. No conditions. -/
import Derived.Test.YtnmnpfdjigpgaaaKq
import Derived.Test.YtnmnpfdjigpgaaaKn
namespace Go.Proofs.Ytnmnpfdjigpgaaa.Vm
open Go.RowKit (wrap64)
set_option linter.unusedSimpArgs false
set_option linter.unusedVariables false

theorem RowRes.gc {H B L : Hp} {w : CV} {xs : List Int} (h : RowRes (H ++ B) w L xs) : ∃ w' L', gcRet H (.c w) (H ++ B ++ L) = (.c w', H ++ L') ∧ RowRes H w' L' xs := by
  rcases h with ⟨rfl, rfl, rfl⟩ | ⟨rfl, rfl⟩
  · exact ⟨.ns, [], by rw [List.append_nil, List.append_nil]; exact gcRet_flat ⟨B, rfl⟩ rfl, .inl ⟨rfl, rfl, rfl⟩⟩
  · refine ⟨.sl H.length 0 0 xs.length, [⟨xs.map .i, 0, true, 1⟩], ?_, .inr ⟨rfl, rfl⟩⟩
    rw [gcRet_row ⟨B ++ [⟨xs.map .i, 0, true, 1⟩], by rw [List.append_assoc]⟩ (by simp) (o := ⟨xs.map .i, 0, true, 1⟩) (by simp) rfl (by simp [flatC])]
theorem right_nat {f : FnR} {b : Int} (h : rightB f b = true) : ∃ k : Nat, b = k ∧ k < f.blocks.length := by
  unfold rightB inB at h
  simp only [Bool.and_eq_true, decide_eq_true_eq] at h
  exact ⟨b.toNat, by omega, by omega⟩
theorem specSuccs0 {H : Hp} {v : CV} {f : FnR} {b : Int} (hv : Blocks H v f.blocks) (hb : f.blocks.length ≤ BIG) :
    ∃ w L, RowRes H w L (succs0 f b) ∧ ∀ k : IV × Hp → Prop, CM 31 [.agg [v, .i f.values], .c (.i b)] H k = k (.c w, H ++ L) := by
  cases hr : rightB f b with
  | false =>
    refine ⟨.sl H.length 0 0 0, [⟨[], 0, true, 1⟩], .inr ⟨by simp [succs0, hr], by simp [succs0, hr]⟩, fun k => det (cw31 ?_) k⟩
    unfold vf31c
    simp [specRight (hv.app _) hb, hr]
    rw [gcRet_row ⟨[⟨[v, .i f.values], 0, true, 2⟩, ⟨[], 0, true, 1⟩], rfl⟩ (by simp) (o := ⟨[], 0, true, 1⟩) (by simp) rfl rfl]
  | true =>
    obtain ⟨n, rfl, hn⟩ := right_nat hr
    obtain ⟨w, L, h1, h2⟩ := specSuccs (m := f.values) (hv.app [⟨[v, .i f.values], 0, true, 2⟩]) hn
    obtain ⟨w', L', h3, h4⟩ := h1.gc
    have e : succs0 f (n : Int) = succsF f.blocks[n].term := by simp [succs0, hr, List.getD_eq_getElem?_getD, hn]
    refine ⟨w', L', by rw [e]; exact h4, fun k => det (cw31 ?_) k⟩
    unfold vf31c
    simp at h3
    simp [specRight (hv.app _) hb, hr, h2, h3]
theorem implSuccs0 {H : Hp} {v : CV} {f : FnR} {b : Int} (hv : Blocks H v f.blocks) (hb : f.blocks.length ≤ BIG) :
    ∃ w L, RowRes H w L (succs0 f b) ∧ ∀ k : IV × Hp → Prop, CM 32 [.agg [v, .i f.values], .c (.i b)] H k = k (.c w, H ++ L) := by
  cases hr : rightB f b with
  | false =>
    refine ⟨.ns, [], .inl ⟨rfl, rfl, by simp [succs0, hr]⟩, fun k => det (cw32 ?_) k⟩
    unfold vf32c
    simp [implRight (hv.app _) hb, hr]
  | true =>
    obtain ⟨n, rfl, hn⟩ := right_nat hr
    obtain ⟨w, L, h1, h2⟩ := implSuccs (m := f.values) (hv.app [⟨[v, .i f.values], 0, true, 2⟩]) hn
    obtain ⟨w', L', h3, h4⟩ := h1.gc
    have e : succs0 f (n : Int) = succsF f.blocks[n].term := by simp [succs0, hr, List.getD_eq_getElem?_getD, hn]
    refine ⟨w', L', by rw [e]; exact h4, fun k => det (cw32 ?_) k⟩
    unfold vf32c
    simp at h3
    simp [implRight (hv.app _) hb, hr, h2, h3]
theorem specPreds0 {H : Hp} {v : CV} {f : FnR} {b : Int} (hv : Blocks H v f.blocks) (hb : f.blocks.length ≤ BIG) :
    ∃ w L, RowRes H w L (preds0 f b) ∧ ∀ k : IV × Hp → Prop, CM 37 [.agg [v, .i f.values], .c (.i b)] H k = k (.c w, H ++ L) := by
  cases hr : rightB f b with
  | false =>
    refine ⟨.sl H.length 0 0 0, [⟨[], 0, true, 1⟩], .inr ⟨by simp [preds0, hr], by simp [preds0, hr]⟩, fun k => det (cw37 ?_) k⟩
    unfold vf37c
    simp [specRight (hv.app _) hb, hr]
    rw [gcRet_row ⟨[⟨[v, .i f.values], 0, true, 2⟩, ⟨[], 0, true, 1⟩], rfl⟩ (by simp) (o := ⟨[], 0, true, 1⟩) (by simp) rfl rfl]
  | true =>
    obtain ⟨w, L, h1, h2⟩ := specPreds (m := f.values) (b := b) (hv.app [⟨[v, .i f.values], 0, true, 2⟩]) hb
    obtain ⟨w', L', h3, h4⟩ := h1.gc
    have e : preds0 f b = predsF f.blocks b := by simp [preds0, hr]
    refine ⟨w', L', by rw [e]; exact h4, fun k => det (cw37 ?_) k⟩
    unfold vf37c
    simp at h3
    simp [specRight (hv.app _) hb, hr, h2, h3]
theorem implPreds0 {H : Hp} {v : CV} {f : FnR} {b : Int} (hv : Blocks H v f.blocks) (hb : f.blocks.length ≤ BIG) :
    ∃ w L, RowRes H w L (preds0 f b) ∧ ∀ k : IV × Hp → Prop, CM 38 [.agg [v, .i f.values], .c (.i b)] H k = k (.c w, H ++ L) := by
  cases hr : rightB f b with
  | false =>
    refine ⟨.ns, [], .inl ⟨rfl, rfl, by simp [preds0, hr]⟩, fun k => det (cw38 ?_) k⟩
    unfold vf38c
    simp [implRight (hv.app _) hb, hr]
  | true =>
    obtain ⟨w, L, h1, h2⟩ := implPreds (m := f.values) (b := b) (hv.app [⟨[v, .i f.values], 0, true, 2⟩]) hb
    obtain ⟨w', L', h3, h4⟩ := h1.gc
    have e : preds0 f b = predsF f.blocks b := by simp [preds0, hr]
    refine ⟨w', L', by rw [e]; exact h4, fun k => det (cw38 ?_) k⟩
    unfold vf38c
    simp at h3
    simp [implRight (hv.app _) hb, hr, h2, h3]
theorem succs0_le (f : FnR) (b : Int) : (succs0 f b).length ≤ BIG := by
  unfold succs0
  split
  · have := succsF_le (f.blocks.getD b.toNat ⟨[], [], ⟨0, 0, 0, 0⟩⟩).term
    simp only [BIG]; omega
  · simp
theorem preds0_le {f : FnR} {b : Int} (hb : f.blocks.length ≤ BIG) : (preds0 f b).length ≤ BIG := by
  unfold preds0
  split
  · have := predsTo_le f.blocks b f.blocks.length
    unfold predsF; omega
  · simp
end Go.Proofs.Ytnmnpfdjigpgaaa.Vm
