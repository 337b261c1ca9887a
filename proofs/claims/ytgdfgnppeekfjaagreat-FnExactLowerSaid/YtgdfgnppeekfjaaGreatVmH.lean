/- Each operation of the ideal machine, but for calls, is followed by the model's: append and clear. No conditions. -/
import Derived.Test.YtgdfgnppeekfjaaGreatVmG
namespace Go.Proofs.YtgdfgnppeekfjaaGreat.Vm
open Go.RowKit (wrap64 Below)
set_option linter.unusedSimpArgs false
set_option linter.unusedVariables false
section
variable {P : Program} {w0 : World} {ρ : Rho} {H : Hp} {w : World} {e : Env} {a : Act} {ty : TypeId} {d : Option Tmp} {pos : String} {aft : Array Edge} {gd : Option (Nat × Bool)}
theorem exec_append {t : TypeId} {x y : Operand} {v : Value} {w' : World} (h : (Builtin.append_ #[t, t] ty #[a.eval x, a.eval y]).run P w = .ok v w') :
    (execOp a.eval ⟨d, .call ⟨.builtin .append, #[x, y], #[t, t]⟩, ty, pos, aft, gd⟩).run P w = .ok (.value v) w' := by
  simp only [execOp, resolve, invoke, builtin, Sem.run_bind, Sem.run_pure, Result.andThen_ok, List.map_toArray, List.map_cons, List.map_nil, h]
theorem run_append_none {t ty : TypeId} {el : TypeId} {i : TypeInfo} (ht : P.underlying t = some (.slice el)) (hi : P.info? el = some i) (base : Option Addr) (n c : Nat) (hnc : n ≤ c) (y : Value) (hy : y = .slice none 0 0 ∨ ∃ b k, y = .slice (some b) 0 k) :
    (Builtin.append_ #[t, t] ty #[.slice base n c, y]).run P w = .ok (.slice base n c) w := by
  rcases hy with rfl | ⟨b, k, rfl⟩
  · cases base <;> simp [Builtin.append_, run_underlying ht, sizeOf, typeInfo, hi, Builtin.lenOf, Builtin.firstCells, loadCells, loadCellsFrom, storeCells, hnc]
  · cases base <;> simp [Builtin.append_, run_underlying ht, sizeOf, typeInfo, hi, Builtin.lenOf, Builtin.firstCells, loadCells, loadCellsFrom, storeCells, hnc]
theorem run_room {t ty el ty' : TypeId} {i : TypeInfo} (ht : P.underlying t = some (.slice el)) (hi : P.info? el = some i)
    (g sLen sCap : Nat) (cur : Array Value) (hg : w.heap[g]? = some (.cells cur ty' (0, 0)))
    (b : Addr) (m c : Nat) (news : List Value) (hl : news.length = m * i.size) (hnews : ∀ j u, news[j]? = some u → w.cell? (b.add j) = some u) (h1 : ∀ u ∈ news, u.oneCell' = true)
    (hroom : sLen + m ≤ sCap) (hfit : sLen * i.size + news.length ≤ cur.size) :
    (Builtin.append_ #[t, t] ty #[.slice (some ⟨g, 0, none⟩) sLen sCap, .slice (some b) m c]).run P w =
      .ok (.slice (some ⟨g, 0, none⟩) (sLen + m) sCap) (w.setRow g (cur.toList.take (sLen * i.size) ++ news ++ cur.toList.drop (sLen * i.size + news.length)).toArray) := by
  have hf := run_firstCells_some (P := P) w i.size m b m c news hl hnews
  have hst := run_storeCells_at P g (sLen * i.size) ty' news 0 cur w hg (by simpa using hfit) h1
  simp only [Nat.add_zero] at hst
  simp [Builtin.append_, run_underlying ht, sizeOf, typeInfo, hi, Builtin.lenOf, hroom, hf, Addr.add_lit, hst]
theorem src_R {sz : Nat} {v : CV} {y : Value} {m : Nat} {xs : List CV} (h : srcOf H sz v = some (m, xs)) (hy : VR ρ H v y) (hS : Sim w0 ρ H w) :
    xs.length = m * sz ∧ (∀ c ∈ xs, wfC H c) ∧ ((m = 0 ∧ (y = .slice none 0 0 ∨ ∃ b k, y = .slice (some b) 0 k)) ∨
      (0 < m ∧ ∃ b c vs, y = .slice (some b) m c ∧ RL (CR ρ H) xs vs ∧ ∀ j v, vs[j]? = some v → w.cell? (b.add j) = some v)) := by
  unfold srcOf at h
  split at h
  · simp only [Option.some.injEq, Prod.mk.injEq] at h
    obtain ⟨rfl, rfl⟩ := h
    exact ⟨by simp, by simp, .inl ⟨rfl, .inl hy⟩⟩
  · rename_i id g off len
    obtain ⟨o, ho, h⟩ := Option.bind_eq_some_iff.1 h
    split at h
    · rename_i hle
      simp only [Option.some.injEq, Prod.mk.injEq] at h
      obtain ⟨rfl, rfl⟩ := h
      obtain ⟨r1, r2⟩ := rdOb_R ho
      obtain ⟨ad, c, rfl, hlc, hm, ha⟩ := hy
      refine ⟨by simp; omega, fun c hc => hS.wf id o c r1 (List.mem_of_mem_drop (List.mem_of_mem_take hc)), ?_⟩
      rcases Nat.eq_zero_or_pos len with rfl | hpos
      · exact .inl ⟨rfl, .inr ⟨_, _, rfl⟩⟩
      · obtain ⟨h1, h2, h3⟩ := ha o r1 r2
        have had : ad = (ρ id).1.add off := by rcases h1 with h1 | h1; omega; exact h1
        have hex : ∀ j, ∃ v, j < len * sz → ∃ c, o.cells[off + j]? = some c ∧ w.cell? (ad.add j) = some v ∧ CR ρ H c v := by
          intro j
          by_cases hj : j < len * sz
          · obtain ⟨v, hv, hr⟩ := hS.cell id o (off + j) _ r1 (List.getElem?_eq_getElem (show off + j < o.cells.length by omega))
            exact ⟨v, fun _ => ⟨_, List.getElem?_eq_getElem (by omega), by rw [had, Addr.add_add]; exact hv, hr⟩⟩
          · exact ⟨undef, fun h => absurd h hj⟩
        obtain ⟨f, hf⟩ := Classical.axiomOfChoice hex
        refine .inr ⟨hpos, ad, c, (List.range (len * sz)).map f, rfl, ⟨by simp; omega, fun j c v hcj hvj => ?_⟩, fun j v hvj => ?_⟩
        · have hj : j < len * sz := by have := (List.getElem?_eq_some_iff.1 hvj).1; simpa using this
          obtain ⟨c', hc', _, hr⟩ := hf j hj
          rw [List.getElem?_take, if_pos hj, List.getElem?_drop, hc'] at hcj
          injection hcj with hcj; subst hcj
          simp [hj] at hvj
          subst hvj
          exact hr
        · have hj : j < len * sz := by have := (List.getElem?_eq_some_iff.1 hvj).1; simpa using this
          obtain ⟨c', _, hv, _⟩ := hf j hj
          simp [hj] at hvj
          subst hvj
          exact hv
    · cases h
  · cases h
theorem RL.one {xs : List CV} {vs : List Value} (h : RL (CR ρ H) xs vs) : ∀ u ∈ vs, u.oneCell' = true := by
  intro u hu
  obtain ⟨j, hj⟩ := List.getElem?_of_mem hu
  have hjl : j < xs.length := by have := (List.getElem?_eq_some_iff.1 hj).1; rw [h.1]; exact this
  exact (h.2 j _ u (List.getElem?_eq_getElem hjl) hj).2
theorem putAt_nil (cs : List CV) (n : Nat) : putAt cs n [] = cs := by unfold putAt; simp
theorem set_same {α : Type} (l : List α) (i : Nat) (x : α) (h : l[i]? = some x) : l.set i x = l := by
  apply List.ext_getElem?
  intro j
  by_cases e : j = i
  · subst e; rw [List.getElem?_set_self (List.getElem?_eq_some_iff.1 h).1, h]
  · rw [List.getElem?_set_ne (Ne.symm e)]
theorem sim_app {t el : TypeId} {sz : Nat} {x y : Operand} {u v : CV} {m : Nat} {xs : List CV} {iv : IV} {H' : Hp} {i : TypeInfo} {z : Value} (he : elOf P t = some el) (hi : P.info? el = some i) (hs : i.size = sz) (hp0 : 0 < sz) (hb : i.bytes ≤ 64 * sz)
    (hz : i.zero = some z) (hzs : z.cells.size = sz) (hx : VR ρ H u (a.eval x)) (hwx : wfC H u) (hy : VR ρ H v (a.eval y)) (hsrc : srcOf H sz v = some (m, xs)) (happ : doApp H sz u m xs = some (iv, H')) (hS : Sim w0 ρ H w) :
    Outc w0 ρ H iv H' ((execOp a.eval ⟨d, .call ⟨.builtin .append, #[x, y], #[t, t]⟩, ty, pos, aft, gd⟩).run P w) := by
  have hu := elOf_R he
  obtain ⟨hxl, hxw, hsy⟩ := src_R hsrc hy hS
  subst hs
  unfold doApp at happ
  split at happ
  · -- the receiver is nil
    simp only [VR] at hx
    rcases hsy with ⟨rfl, hsy⟩ | ⟨hm, b, c, vs, hyv, hr, hcell⟩
    · rw [if_pos rfl] at happ
      simp only [Option.some.injEq, Prod.mk.injEq] at happ
      obtain ⟨rfl, rfl⟩ := happ
      refine Outc.here hS (v := .slice none 0 0) (exec_append ?_) rfl trivial
      rw [hx]
      exact run_append_none hu hi none 0 0 (Nat.le_refl _) _ hsy
    · rw [if_neg (by omega)] at happ
      split at happ
      · rename_i hlim
        simp only [Option.some.injEq, Prod.mk.injEq] at happ
        obtain ⟨rfl, rfl⟩ := happ
        simp only [LIM] at hlim
        have hml : m ≤ m * i.size := Nat.le_mul_of_pos_right _ hp0
        have hbm : m * i.bytes ≤ 281474976710656 := by
          have e1 : m * i.bytes ≤ m * (64 * i.size) := Nat.mul_le_mul_left _ hb
          have e2 : m * (64 * i.size) = 64 * (m * i.size) := by rw [Nat.mul_left_comm]
          omega
        have hvl : vs.length = m * i.size := by rw [← hr.1]; exact hxl
        have hrun := run_append_nil (P := P) (w := w) t ty el i z hu hi hz b m c vs hvl hcell hm (by omega) hbm
        have hgc := grownCap_ge w m 0 el
        have hsize : (vs.toArray ++ Builtin.zeroCells z.cells (grownCap w m 0 el - m)).size = grownCap w m 0 el * i.size := by
          rw [Array.size_append, size_zeroCells, hzs]
          simp only [List.size_toArray, hvl]
          rw [← Nat.add_mul, Nat.add_sub_cancel' hgc]
        refine ⟨_, _, .inl ⟨_, exec_append (by rw [hx, hyv]; exact hrun), ?_⟩, ?_, hS.drew.alloc xs i.size (vs.toArray ++ Builtin.zeroCells z.cells (grownCap w m 0 el - m)) el ?_ (fun j c hj => ?_) hxw, Ext.push _ _⟩
        · refine ⟨_, _, rfl, hgc, grownCap_le_maxLen _ _ _ _ (by simp only [maxLen]; omega), fun o ho hg => ?_⟩
          have ho' := fresh_get ho
          subst ho'
          unfold setRho
          rw [if_pos rfl]
          refine ⟨.inr (by rw [add_own]; rfl), ?_, fun _ => ?_⟩
          · simp only [Nat.zero_add, hxl]; exact Nat.mul_le_mul_right _ hgc
          · simp only [Nat.zero_add, hsize]; exact Nat.le_refl _
        · exact ⟨⟨xs, 0, true, i.size⟩, by unfold fresh; simp, Nat.le_refl _⟩
        · rw [hsize, hxl]; exact Nat.mul_le_mul_right _ hgc
        · obtain ⟨v, hv, hr'⟩ := hr.at_ hj
          refine ⟨v, ?_, hr'⟩
          rw [Array.getElem?_append_left (by have := (List.getElem?_eq_some_iff.1 hv).1; simpa using this)]
          simpa using hv
      · cases happ
  · -- the receiver is a slice
    rename_i id g off len
    have hsp := Option.bind_eq_some_iff.1 happ
    clear happ
    obtain ⟨o, ho, happ⟩ := hsp
    obtain ⟨r1, r2⟩ := rdOb_R ho
    obtain ⟨ad, c, hxv, hlc, hcm, ha⟩ := hx
    obtain ⟨h1, h2, h3⟩ := ha o r1 r2
    split at happ
    · rename_i hcond
      obtain ⟨hrw, hsz, rfl⟩ := hcond
      have h3 := h3 hrw
      simp only [Nat.zero_add] at h2 h3
      rw [hsz] at h2 h3
      obtain ⟨gb, arr, ty', o1, o2, o3, o4, o5⟩ := hS.own id o r1 hrw
      rcases hsy with ⟨rfl, hsy⟩ | ⟨hm, b, cc, vs, hyv, hr, hcell⟩
      · -- nothing is appended
        have hx0 : xs = [] := List.eq_nil_of_length_eq_zero (by simpa using hxl)
        subst hx0
        have hrun := run_append_none (P := P) (w := w) (ty := ty) hu hi (some ad) len c hlc _ hsy
        split at happ
        · simp only [Option.some.injEq, Prod.mk.injEq, Nat.add_zero, putAt_nil] at happ
          obtain ⟨rfl, rfl⟩ := happ
          rw [set_same H id o r1]
          exact Outc.here hS (v := .slice (some ad) len c) (exec_append (by rw [hxv]; exact hrun)) ⟨ad, c, rfl, hlc, hcm, ha⟩ hwx
        · split at happ
          · rename_i hn1 hn2
            exfalso
            simp only [List.length_nil, Nat.add_zero] at hn1
            omega
          · cases happ
      · have hvl : vs.length = m * i.size := by rw [← hr.1]; exact hxl
        split at happ
        · -- within what is there
          rename_i hin
          simp only [Option.some.injEq, Prod.mk.injEq] at happ
          obtain ⟨rfl, rfl⟩ := happ
          have hroom : len + m ≤ c := by
            have : (len + m) * i.size ≤ c * i.size := by rw [Nat.add_mul, ← hxl]; omega
            exact Nat.le_of_mul_le_mul_right this hp0
          have had : ad = ⟨gb, 0, none⟩ := by
            rcases h1 with h1 | h1
            · omega
            · rw [h1, o1, add_own]
          have hidlt : id < H.length := (List.getElem?_eq_some_iff.1 r1).1
          have hrun := run_room (P := P) (w := w) (ty := ty) hu hi gb len c arr o3 b m cc vs hvl hcell hr.one hroom (by omega)
          refine ⟨ρ, _, .inl ⟨_, exec_append (by rw [hxv, hyv, had]; exact hrun), ?_⟩, ?_, hS.store r1 hrw (off := len * i.size) (by omega) hr hxw o1 o3, Ext.set_same r1 rfl (putAt_length (by omega)) rfl rfl⟩
          · refine ⟨_, c, rfl, hroom, hcm, fun o' ho' hg' => ?_⟩
            rw [List.getElem?_set_self hidlt] at ho'
            injection ho' with ho'
            subst ho'
            refine ⟨.inr (by rw [o1, add_own]), ?_, fun _ => ?_⟩
            · simp only [putAt_length (cs := o.cells) (off := len * i.size) (xs := xs) (by omega), hsz]; omega
            · simp only [hsz]; omega
          · exact ⟨_, List.getElem?_set_self hidlt, by show g ≤ o.g; omega⟩
        · split at happ
          · -- it grows
            rename_i hcond
            obtain ⟨hfull, hlim⟩ := hcond
            simp only [Option.some.injEq, Prod.mk.injEq] at happ
            obtain ⟨rfl, rfl⟩ := happ
            simp only [LIM] at hlim
            have hidlt : id < H.length := (List.getElem?_eq_some_iff.1 r1).1
            have hnl : (len + m) * i.size = o.cells.length + xs.length := by rw [Nat.add_mul, hfull, hxl]
            have hnm : len + m ≤ (len + m) * i.size := Nat.le_mul_of_pos_right _ hp0
            have hold : ∀ (j : Nat) (c : CV), o.cells[j]? = some c → ∃ v, arr[j]? = some v ∧ CR ρ H c v := by
              intro j c hc
              obtain ⟨v, hv, hr'⟩ := hS.cell id o j c r1 hc
              rw [o1, add_own] at hv
              simp only [World.cell?, o3] at hv
              exact ⟨v, by simpa using hv, hr'⟩
            have hne : ∀ k ok, H[k]? = some ok → k ≠ id → (ρ k).1.block ≠ gb := by
              intro k ok hk e hb'
              have := hS.inj id k o ok r1 hk hrw (Ne.symm e)
              rw [o1] at this
              exact this hb'.symm
            by_cases hroom : len + m ≤ c
            · -- within the capacity
              have had : ad = ⟨gb, 0, none⟩ := by
                rcases h1 with h1 | h1
                · omega
                · rw [h1, o1, add_own]
              have hcs : (len + m) * i.size ≤ c * i.size := Nat.mul_le_mul_right _ hroom
              have hrun := run_room (P := P) (w := w) (ty := ty) hu hi gb len c arr o3 b m cc vs hvl hcell hr.one hroom (by have := hr.1; omega)
              have hsize : (arr.toList.take (len * i.size) ++ vs ++ arr.toList.drop (len * i.size + vs.length)).toArray.size = arr.size := by
                have := hr.1; simp; omega
              refine ⟨_, w.setRow gb (arr.toList.take (len * i.size) ++ vs ++ arr.toList.drop (len * i.size + vs.length)).toArray, .inl ⟨_, exec_append (by rw [hxv, hyv, had]; exact hrun), ?_⟩, ?_,
                hS.grow (o' := { o with cells := o.cells ++ xs, g := g + 1 }) r1 (by show o.g < g + 1; omega) (g := gb) (ty := ty') ⟨rfl, rfl, rfl, by simp, fun k hk => setRow_other w gb k _ (by omega)⟩ (fun k ok hk e => ⟨setRow_other w gb _ _ (hne k ok hk e), hne k ok hk e⟩) o2 (setRow_heap w gb arr _ ty' _ o3) ?_ ?_, Ext.set_grow _ r1 (by show o.g < g + 1; omega)⟩
              · refine ⟨_, c, rfl, hroom, hcm, fun o' ho' hg' => ?_⟩
                rw [List.getElem?_set_self hidlt] at ho'
                injection ho' with ho'
                subst ho'
                unfold setRho
                rw [if_pos rfl]
                refine ⟨.inr (by rw [add_own]), ?_, fun _ => ?_⟩
                · simp only [List.length_append, hsz]; omega
                · simp only [hsz, hsize]; omega
              · exact ⟨_, List.getElem?_set_self hidlt, Nat.le_refl _⟩
              · simp only [List.length_append]; rw [hsize]; omega
              · intro j cv hj
                simp only at hj
                by_cases hjl : j < o.cells.length
                · rw [List.getElem?_append_left hjl] at hj
                  obtain ⟨v, hv, hr'⟩ := hold j cv hj
                  refine ⟨hS.wf id o cv r1 (List.mem_of_getElem? hj), v, ?_, hr'⟩
                  have hja : j < arr.size := (Array.getElem?_eq_some_iff.1 hv).1
                  have : (arr.toList.take (len * i.size) ++ vs ++ arr.toList.drop (len * i.size + vs.length))[j]? = some v := by
                    rw [List.append_assoc, List.getElem?_append_left (by simp; omega), List.getElem?_take, if_pos (by omega)]
                    simpa using hv
                  simpa using this
                · rw [List.getElem?_append_right (by omega)] at hj
                  obtain ⟨v, hv, hr'⟩ := hr.at_ hj
                  refine ⟨hxw cv (List.mem_of_getElem? hj), v, ?_, hr'⟩
                  have hjv : j - o.cells.length < vs.length := (List.getElem?_eq_some_iff.1 hv).1
                  have : (arr.toList.take (len * i.size) ++ vs ++ arr.toList.drop (len * i.size + vs.length))[j]? = some v := by
                    rw [List.append_assoc, List.getElem?_append_right (by simp; omega), List.getElem?_append_left (by simp; omega)]
                    have e : j - (List.take (len * i.size) arr.toList).length = j - o.cells.length := by simp; omega
                    rw [e]; exact hv
                  simpa using this
            · -- a new block
              have hbm : (len + m) * i.bytes ≤ 140737488355328 := by
                have e1 : (len + m) * i.bytes ≤ (len + m) * (64 * i.size) := Nat.mul_le_mul_left _ hb
                have e2 : (len + m) * (64 * i.size) = 64 * ((len + m) * i.size) := by rw [Nat.mul_left_comm]
                omega
              have holds : ∀ j v, (arr.toList.take (len * i.size))[j]? = some v → w.cell? (ad.add j) = some v := by
                intro j v hv
                have hj : j < len * i.size := by have := (List.getElem?_eq_some_iff.1 hv).1; simp at this; omega
                have had : ad = ⟨gb, 0, none⟩ := by
                  rcases h1 with h1 | h1
                  · exfalso
                    have : len = 0 := by omega
                    subst this
                    omega
                  · rw [h1, o1, add_own]
                rw [had, add_own]
                rw [List.getElem?_take, if_pos hj] at hv
                simp only [World.cell?, o3]
                simpa using hv
              have hol : (arr.toList.take (len * i.size)).length = len * i.size := by simp; omega
              have hrun := run_append_grow (P := P) (w := w) t ty el i z hu hi hz ad len c (arr.toList.take (len * i.size)) hol holds b m cc vs hvl hcell (by omega) (by omega) (growslice_fits (by omega) hbm)
              have hgc := grownCap_ge w (len + m) c el
              have hsize : ((arr.toList.take (len * i.size)).toArray ++ vs.toArray ++ Builtin.zeroCells z.cells (grownCap w (len + m) c el - (len + m))).size = grownCap w (len + m) c el * i.size := by
                rw [Array.size_append, size_zeroCells, hzs, Array.size_append]
                simp only [List.size_toArray, hol, hvl]
                rw [← Nat.add_mul, ← Nat.add_mul, Nat.add_sub_cancel' hgc]
              have hB : Below w0.heap.size w (w.drew.alloc (.cells ((arr.toList.take (len * i.size)).toArray ++ vs.toArray ++ Builtin.zeroCells z.cells (grownCap w (len + m) c el - (len + m))) el)) :=
                ((Below.refl _ w).drew).alloc hS.bel.size _
              have hold' : ∀ k, k < w.heap.size → (w.drew.alloc (.cells ((arr.toList.take (len * i.size)).toArray ++ vs.toArray ++ Builtin.zeroCells z.cells (grownCap w (len + m) c el - (len + m))) el)).heap[k]? = w.heap[k]? := by
                intro k hk
                exact (((Below.refl w.heap.size w).drew).alloc (Nat.le_refl _) _).block k hk
              refine ⟨_, _, .inl ⟨_, exec_append (by rw [hxv, hyv]; exact hrun), ?_⟩, ?_,
                hS.grow (o' := { o with cells := o.cells ++ xs, g := g + 1 }) r1 (by show o.g < g + 1; omega) (g := w.heap.size) (ty := el) hB (fun k ok hk e => ⟨hold' _ (hS.lt k ok hk), Nat.ne_of_lt (hS.lt k ok hk)⟩) hS.bel.size (heap_alloc_new w.drew _) ?_ ?_, Ext.set_grow _ r1 (by show o.g < g + 1; omega)⟩
              · refine ⟨_, _, rfl, hgc, grownCap_le_maxLen _ _ _ _ (by simp only [maxLen]; omega), fun o' ho' hg' => ?_⟩
                rw [List.getElem?_set_self hidlt] at ho'
                injection ho' with ho'
                subst ho'
                unfold setRho
                rw [if_pos rfl]
                refine ⟨.inr (by rw [add_own]), ?_, fun _ => ?_⟩
                · simp only [List.length_append, hsz, Nat.zero_add, ← hnl]; exact Nat.mul_le_mul_right _ hgc
                · simp only [hsz, hsize, Nat.zero_add]; exact Nat.le_refl _
              · exact ⟨_, List.getElem?_set_self hidlt, Nat.le_refl _⟩
              · simp only [List.length_append]; rw [hsize, ← hnl]; exact Nat.mul_le_mul_right _ hgc
              · intro j cv hj
                simp only at hj
                by_cases hjl : j < o.cells.length
                · rw [List.getElem?_append_left hjl] at hj
                  obtain ⟨v, hv, hr'⟩ := hold j cv hj
                  refine ⟨hS.wf id o cv r1 (List.mem_of_getElem? hj), v, ?_, hr'⟩
                  rw [Array.append_assoc, Array.getElem?_append_left (by simp; omega)]
                  have : (arr.toList.take (len * i.size))[j]? = some v := by
                    rw [List.getElem?_take, if_pos (by omega)]; simpa using hv
                  simpa using this
                · rw [List.getElem?_append_right (by omega)] at hj
                  obtain ⟨v, hv, hr'⟩ := hr.at_ hj
                  refine ⟨hxw cv (List.mem_of_getElem? hj), v, ?_, hr'⟩
                  have hjv : j - o.cells.length < vs.length := (List.getElem?_eq_some_iff.1 hv).1
                  rw [Array.append_assoc, Array.getElem?_append_right (by simp; omega), Array.getElem?_append_left (by simp; omega)]
                  have e : j - (List.take (len * i.size) arr.toList).toArray.size = j - o.cells.length := by simp; omega
                  rw [e]
                  simpa using hv
          · cases happ
    · cases happ
  · cases happ
theorem zeroCells_made (z : Array Value) (n : Nat) : Builtin.zeroCells z n = madeCells z (n * z.size) := rfl
theorem sim_clr {t el : TypeId} {sz : Nat} {zs : List CV} {x : Operand} {id g off len : Nat} {o : Ob} (he : elOf P t = some el) (hz : zeroIs P el zs = true) (hzl : zs.length = sz) (hp0 : 0 < sz)
    (hx : VR ρ H (.sl id g off len) (a.eval x)) (ho : rdOb H id g = some o) (hrw : o.rw = true) (hle : off + len * sz ≤ o.cells.length) (hS : Sim w0 ρ H w) :
    Outc w0 ρ H (.tup []) (H.set id { o with cells := putAt o.cells off (List.replicate len zs).flatten }) ((execOp a.eval ⟨d, .call ⟨.builtin .clear, #[x], #[t]⟩, ty, pos, aft, gd⟩).run P w) := by
  obtain ⟨r1, r2⟩ := rdOb_R ho
  obtain ⟨ad, c, hxv, hlc, hcm, ha⟩ := hx
  obtain ⟨h1, h2, h3⟩ := ha o r1 r2
  obtain ⟨i, z, i1, i2, i3, i4⟩ := zeroIs_R ρ H hz
  have hu := elOf_R he
  subst hzl
  have hzz : zs.length = z.cells.size := by have := i3.1; simpa using this
  rcases Nat.eq_zero_or_pos len with rfl | hpos
  · have e1 : (List.replicate 0 zs).flatten = [] := rfl
    rw [e1, putAt_nil, set_same H id o r1]
    refine ⟨ρ, w, .inl ⟨.tuple #[], ?_, ⟨[], rfl, RL.nil _⟩⟩, by intro t ht; simp at ht, hS, Ext.refl _ _⟩
    simp [execOp, resolve, invoke, builtin, Builtin.clear_, hxv, run_underlying hu]
  · obtain ⟨gb, arr, ty', o1, o2, o3, o4, o5⟩ := hS.own id o r1 hrw
    have had : ad = ⟨gb, off, none⟩ := by
      rcases h1 with h1 | h1
      · omega
      · rw [h1, o1, add_own]
    have hmade : RL (CR ρ H) (List.replicate len zs).flatten (madeCells z.cells (len * zs.length)).toList := made_RL i3 hp0 len
    have hml : (madeCells z.cells (len * zs.length)).toList.length = len * zs.length := by simp [madeCells]
    have hst := run_storeCells_at P gb off ty' (madeCells z.cells (len * zs.length)).toList 0 arr w o3 (by rw [hml]; omega) hmade.one
    simp only [Nat.add_zero] at hst
    have hwf : ∀ c ∈ (List.replicate len zs).flatten, wfC H c := by
      intro c hc
      rw [List.mem_flatten] at hc
      obtain ⟨l, hl', hc⟩ := hc
      rw [List.mem_replicate] at hl'
      rw [hl'.2] at hc
      exact i4 c hc
    have hlen : (List.replicate len zs).flatten.length = len * zs.length := by simp
    refine ⟨ρ, _, .inl ⟨.tuple #[], ?_, ⟨[], rfl, RL.nil _⟩⟩, by intro t ht; simp at ht, hS.store r1 hrw (off := off) (by rw [hlen]; omega) hmade hwf o1 o3, Ext.set_same r1 rfl (putAt_length (by rw [hlen]; omega)) rfl rfl⟩
    obtain ⟨n, rfl⟩ : ∃ n, len = n + 1 := ⟨len - 1, by omega⟩
    have hzc : (Builtin.zeroCells z.cells (n + 1)).toList = (madeCells z.cells ((n + 1) * zs.length)).toList := by rw [zeroCells_made, hzz]
    have hzv : (zeroValue el).run P w = .ok z w := by simp [zeroValue, typeInfo, i1, i2]
    simp only [execOp, resolve, invoke, builtin, Builtin.clear_, Sem.run_bind, Sem.run_pure, Result.andThen_ok, List.map_toArray, List.map_cons, List.map_nil, hxv, had]
    simp [run_underlying hu, hzv, hzc, hst]
theorem sim_clr_nil {t el : TypeId} {x : Operand} (he : elOf P t = some el) (hx : VR ρ H .ns (a.eval x)) (hS : Sim w0 ρ H w) :
    Outc w0 ρ H (.tup []) H ((execOp a.eval ⟨d, .call ⟨.builtin .clear, #[x], #[t]⟩, ty, pos, aft, gd⟩).run P w) := by
  simp only [VR] at hx
  refine ⟨ρ, w, .inl ⟨.tuple #[], ?_, ⟨[], rfl, RL.nil _⟩⟩, by intro t ht; simp at ht, hS, Ext.refl _ _⟩
  simp [execOp, resolve, invoke, builtin, Builtin.clear_, hx, run_underlying (elOf_R he)]
end
end Go.Proofs.YtgdfgnppeekfjaaGreat.Vm
