/- slices.Sort of numbers, as code from elsewhere: what it does, and that it does so. Conditions: the contract of the call at hand. -/
import Derived.Test.YtgdfgnppeekfjaaGreatVmU
import Derived.Test.YtgdfgnppeekfjaaGreatVmM
import Derived.Sort.Row
import Derived.Sort.Grow
namespace Go.Proofs.YtgdfgnppeekfjaaGreat.Vm
open Go.Sort
open Go.RowKit (wrap64 Below)
set_option linter.unusedSimpArgs false
set_option linter.unusedVariables false
abbrev sortI (xs : List Int) : List Int := xs.mergeSort fun x y => decide (x ≤ y)
theorem sortI_len (xs : List Int) : (sortI xs).length = xs.length := by simp
def sortX (fs : Nat) : OrD := fun f args H Q => f = fs ∧
  ((args = [.c .ns] ∧ Q (.tup [], H)) ∨
   ∃ id g off o xs, args = [.c (.sl id g off xs.length)] ∧ rdOb H id g = some o ∧ o.rw = true ∧ o.sz = 1 ∧ off + xs.length ≤ o.cells.length ∧ (o.cells.drop off).take xs.length = xs.map .i ∧ xs.length ≤ LIM ∧
     Q (.tup [], H.set id { o with cells := putAt o.cells off ((sortI xs).map .i) }))
theorem sortX_mono (fs : Nat) : MonoK (sortX fs) := by
  rintro f as H Q Q' hq ⟨hf, h⟩
  refine ⟨hf, ?_⟩
  rcases h with ⟨h1, h2⟩ | ⟨id, g, off, o, xs, h1, h2, h3, h4, h5, h6, h7, h8⟩
  · exact .inl ⟨h1, hq _ h2⟩
  · exact .inr ⟨id, g, off, o, xs, h1, h2, h3, h4, h5, h6, h7, hq _ h8⟩
theorem sortX_nm (fs : Nat) : NM (sortX fs) := by
  rintro f as H Q ⟨hf, h⟩
  rcases h with ⟨h1, h2⟩ | ⟨id, g, off, o, xs, h1, h2, h3, h4, h5, h6, h7, h8⟩
  · exact ⟨_, h2⟩
  · exact ⟨_, h8⟩
theorem sortX_cj (fs : Nat) : CJ (sortX fs) := by
  rintro f as H Q Q' ⟨hf, h⟩ ⟨_, k⟩
  refine ⟨hf, ?_⟩
  rcases h with ⟨rfl, h2⟩ | ⟨id, g, off, o, xs, rfl, h2, h3, h4, h5, h6, h7, h8⟩
  · rcases k with ⟨_, k2⟩ | ⟨id', g', off', o', xs', k1, _⟩
    · exact .inl ⟨rfl, h2, k2⟩
    · simp at k1
  · rcases k with ⟨k1, _⟩ | ⟨id', g', off', o', xs', k1, k2, k3, k4, k5, k6, k7, k8⟩
    · simp at k1
    · simp only [List.cons.injEq, IV.c.injEq, CV.sl.injEq, and_true] at k1
      obtain ⟨rfl, rfl, rfl, e⟩ := k1
      rw [h2] at k2; injection k2 with k2; subst k2
      rw [e, k6] at h6
      have ex : xs' = xs := map_i_inj.1 h6
      subst ex
      exact .inr ⟨id, g, off, o, xs', rfl, h2, h3, h4, h5, k6, h7, h8, k8⟩
theorem Sim.congr {w0 : World} {ρ : Rho} {H : Hp} {w w' : World} (h : Sim w0 ρ H w) (h1 : w'.os = w.os) (h2 : w'.tape = w.tape) (h3 : w'.output = w.output) (h4 : w.heap.size ≤ w'.heap.size)
    (h5 : ∀ k, k < w.heap.size → w'.heap[k]? = w.heap[k]?) : Sim w0 ρ H w' := by
  have hle := h.bel.size
  refine ⟨h.bel.trans ⟨h1, h2, h3, h4, fun k hk => h5 k (by omega)⟩, ?_, ?_, h.inj, fun id o ho => Nat.lt_of_lt_of_le (h.lt id o ho) h4, h.wf⟩
  · intro id o j c ho hc
    obtain ⟨v, a, b⟩ := h.cell id o j c ho hc
    refine ⟨v, ?_, b⟩
    rw [← a]
    have hb : ((ρ id).1.add j).block < w.heap.size := by rw [Addr.add_block]; exact h.lt id o ho
    unfold World.cell?
    rw [h5 _ hb]
  · intro id o ho hrw
    obtain ⟨g, arr, ty, a, b, c, d⟩ := h.own id o ho hrw
    refine ⟨g, arr, ty, a, b, ?_, d⟩
    rw [h5 g (Array.getElem?_eq_some_iff.1 c).1]
    exact c
theorem map_int_get {zs : List Int} {j : Nat} (hj : j < zs.length) : (zs.toArray)[j]! = zs[j] := by
  rw [getElem!_pos _ j (by simpa using hj)]
  simp
theorem sort_sim {P : Program} {w0 : World} {fs : Nat} (hf : ∃ fn, P.funcs[fs]? = some fn ∧ fn.body.isNone = false ∧ (fn.name == "runtime.NumGoroutine") = false)
    (hs : ∀ (blk off cap : Nat) (zs : List Int) (w : World), Holds (Value.int .i64) w blk off zs.toArray → blk < w.heap.size → zs.length < 4611686018427387904 →
      Calls P fs #[.slice (some ⟨blk, off, none⟩) zs.length cap] w fun e w' => e = .returned (.tuple #[]) ∧ ∃ n os, w' = grow (putRow (Value.int .i64) (Sort.ahead w n) blk off (sortI zs).toArray) os)
    (hn : ∀ (p : Option Addr) (cap : Nat) (w : World), Calls P fs #[.slice p 0 cap] w fun e w' => e = .returned (.tuple #[]) ∧ w' = w) : OrdSim P w0 (sortX fs) := by
  rintro f args H Q ⟨rfl, h⟩
  refine ⟨hf, fun ρ w vs hS hR hw => ?_⟩
  have htup : IR ρ H (.tup []) (.tuple #[]) := ⟨[], rfl, RL.nil _⟩
  rcases h with ⟨rfl, hq⟩ | ⟨id, g, off, o, xs, rfl, ho, hrw, hsz, hl, hc, hlim, hq⟩
  · obtain ⟨b, bs, rfl, hb, hbs⟩ := hR.cons_inv
    obtain rfl := hbs.nil_inv
    have hb : b = .slice none 0 0 := hb
    subst hb
    refine (hn none 0 w).mono ?_
    rintro e w' ⟨rfl, rfl⟩
    exact ⟨_, hq, ρ, _, rfl, htup, by simp [wfI], hS, Ext.refl _ _⟩
  · obtain ⟨b, bs, rfl, hb, hbs⟩ := hR.cons_inv
    obtain rfl := hbs.nil_inv
    obtain ⟨a, cap, rfl, hlc, hcm, ha⟩ := hb
    obtain ⟨ho1, ho2⟩ := rdOb_some.1 ho
    obtain ⟨ha1, ha2, ha3⟩ := ha o ho1 ho2
    obtain ⟨gb, arr, ty, q1, q2, q3, q4, q5⟩ := hS.own id o ho1 hrw
    by_cases h0 : xs = []
    · subst h0
      refine (hn (some a) cap w).mono ?_
      rintro e w' ⟨rfl, rfl⟩
      have e0 : H.set id { o with cells := putAt o.cells off ((sortI []).map .i) } = H := by
        have : putAt o.cells off ((sortI []).map .i) = o.cells := by simp [putAt]
        rw [this]
        exact set_same H id o ho1
      rw [e0] at hq
      exact ⟨_, hq, ρ, _, rfl, htup, by simp [wfI], hS, Ext.refl _ _⟩
    · have hpos : 0 < xs.length := List.length_pos_iff.2 h0
      have ha' : a = ⟨gb, off, none⟩ := by
        rcases ha1 with h | h
        · omega
        · rw [h, q1, add_own]
      subst ha'
      have hcell : ∀ j (hj : j < xs.length), w.cell? ⟨gb, off + j, none⟩ = some (.int .i64 xs[j]) := by
        intro j hj
        have hcj : o.cells[off + j]? = some (.i xs[j]) := by
          have := congrArg (fun l => l[j]?) hc
          simp only [List.getElem?_take, if_pos hj, List.getElem?_drop, List.getElem?_map, List.getElem?_eq_getElem hj, Option.map_some] at this
          exact this
        obtain ⟨v, hv1, hv2⟩ := hS.cell id o (off + j) _ ho1 hcj
        rw [q1, add_own] at hv1
        rw [hv1, hv2.1]
      have hH : Holds (Value.int .i64) w gb off xs.toArray := by
        intro j hj
        have hj : j < xs.length := by simpa using hj
        refine ⟨by rw [map_int_get hj]; exact hcell j hj, ?_⟩
        unfold World.frozen?
        rw [q3]
        simp
      refine (hs gb off cap xs w hH (Array.getElem?_eq_some_iff.1 q3).1 (by simp only [LIM] at hlim; omega)).mono ?_
      rintro e w' ⟨rfl, nn, os, rfl⟩
      have hxl : (sortI xs).length = xs.length := sortI_len xs
      have hx : RL (CR ρ H) ((sortI xs).map .i) ((sortI xs).map (Value.int .i64)) := by
        refine ⟨by simp, fun j c v h1 h2 => ?_⟩
        rw [List.getElem?_map] at h1 h2
        cases hz : (sortI xs)[j]? with
        | none => rw [hz] at h1; cases h1
        | some z =>
          rw [hz] at h1 h2
          injection h1 with h1; injection h2 with h2
          subst h1; subst h2
          exact ⟨rfl, rfl⟩
      have hst := hS.store ho1 hrw (off := off) (xs := (sortI xs).map .i) (vs := (sortI xs).map (Value.int .i64)) (by simp; omega) hx (by
        intro c hc
        rw [List.mem_map] at hc
        obtain ⟨z, _, rfl⟩ := hc
        trivial) q1 q3
      refine ⟨_, hq, ρ, _, rfl, ⟨[], rfl, RL.nil _⟩, by simp [wfI], ?_, ?_⟩
      · refine hst.congr rfl rfl rfl (by simp) ?_
        intro k hk
        have hk : k < w.heap.size := by simpa using hk
        have hglt : gb < w.heap.size := (Array.getElem?_eq_some_iff.1 q3).1
        have e1 : (grow (putRow (Value.int .i64) (Sort.ahead w nn) gb off (sortI xs).toArray) os).heap[k]? = (putRow (Value.int .i64) (Sort.ahead w nn) gb off (sortI xs).toArray).heap[k]? := by
          unfold grow
          exact Array.getElem?_append_left (by simpa using hk)
        rw [e1]
        by_cases e : k = gb
        · subst e
          have hm : (putRow (Value.int .i64) (Sort.ahead w nn) k off (sortI xs).toArray).heap[k]? = some (.cells (putCells (Value.int .i64) off (sortI xs).toArray arr) ty (0, 0)) := by
            unfold putRow mapBlock
            simp only [Array.getElem?_modify, if_true, heap_ahead, q3, Option.map_some, onCells]
          rw [hm, setRow_heap _ _ _ _ _ _ q3]
          congr 2
          apply Array.ext_getElem?
          intro j
          have hxa : off + xs.length ≤ arr.size := by omega
          unfold putCells
          rw [Array.getElem?_mapIdx]
          simp only [List.getElem?_toArray, List.size_toArray, hxl, List.length_map]
          by_cases h1 : off ≤ j ∧ j < off + xs.length
          · have hja : j < arr.size := by omega
            rw [List.append_assoc, List.getElem?_append_right (by simp; omega), List.getElem?_append_left (by simp; omega)]
            simp only [List.length_take, Array.length_toList]
            rw [Nat.min_eq_left (by omega), List.getElem?_map, Array.getElem?_eq_getElem hja, Option.map_some, if_pos h1, map_int_get (by omega), List.getElem?_eq_getElem (by omega)]
            rfl
          · by_cases h2 : j < off
            · rw [List.append_assoc, List.getElem?_append_left (by simp; omega), List.getElem?_take, if_pos h2, Array.getElem?_toList]
              cases hj : arr[j]? with
              | none => rfl
              | some z => simp only [Option.map_some, if_neg h1]
            · rw [List.getElem?_append_right (by simp; omega)]
              simp only [List.length_append, List.length_take, List.length_map, Array.length_toList, hxl, List.getElem?_drop]
              rw [Nat.min_eq_left (by omega), show off + xs.length + (j - (off + xs.length)) = j by omega, Array.getElem?_toList]
              cases hj : arr[j]? with
              | none => rfl
              | some z => simp only [Option.map_some, if_neg h1]
        · unfold putRow mapBlock
          rw [setRow_other _ _ _ _ e]
          simp only [Array.getElem?_modify, heap_ahead, if_neg (Ne.symm e)]
      · exact Ext.set_same ho1 rfl (putAt_length (by simp; omega)) rfl rfl
end Go.Proofs.YtgdfgnppeekfjaaGreat.Vm
