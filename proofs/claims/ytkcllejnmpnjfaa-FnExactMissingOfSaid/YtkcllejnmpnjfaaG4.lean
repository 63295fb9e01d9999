/- The depths of a graph's events, by the program. Conditions: the row is in order, all that its events stand behind are in it. -/
import Derived.Test.YtkcllejnmpnjfaaG3
namespace Go.Proofs.Ytkcllejnmpnjfaa
open Go.Pm
open Go.Gm (Ev Gr)
set_option maxRecDepth 10000
set_option linter.unusedSimpArgs false
set_option linter.unusedVariables false
structure DepI (evs : List Ev) (d : List Int) : Prop where
  ok : Gm.OkD evs d
  bd : Gm.BdD evs d
theorem DepI.le {evs : List Ev} {d : List Int} (h : DepI evs d) (p : Int) : 0 ≤ Gm.dAt evs d p ∧ Gm.dAt evs d p ≤ evs.length := by
  have h1 := Gm.getD_nn h.ok.nn (Gm.fidE evs p)
  have h2 := Gm.getD_bd h.bd (by have := Gm.zer_le d; have := h.ok.len; omega) (Gm.fidE evs p)
  unfold Gm.dAt
  omega
section
variable {P : Program} [Is P]
theorem c_depths (g : Gr) (hx : EvsOK g.events) (hs : Gm.Srt g.events) (hin : ∀ e ∈ g.events, Gm.allIn g.events e = true) : Con P 198 [.agg (encGr g)] (.tup [.sl 1 ((Gm.depthsE g.events).map encI), .bool (Gm.allPos (Gm.depthsE g.events))]) := by
  have hx1 := hx.1
  refine Con.of (n := 78) (rs := [.tmp 2, .tmp 3]) (Is.fn Try.func198) rfl (Is.call Try.call198) Try.results198 Try.ntmps198 (by simp only [method_specs_simp]) ?_
  simp (maxSteps := 4000000) only [method_specs_simp, seval, encGr]
  refine ⟨by kernel_rfl, by omega, by omega, by omega, ?_⟩
  have ez : List.replicate g.events.length [V.int IntKind.i64 0] = (List.replicate g.events.length (0 : Int)).map encI := by simp [encI]
  rw [ez]
  refine SW.while (A := List Int × Bool) (fun a => ⟨pad 78 [.junk, .ptr 0 0, .nil, .bool false, .ar 1 0 g.events.length, .int .i64 (Gm.zer a.1 : Nat), .bool a.2], [.box true (encGr g), .arr true 1 (a.1.map encI)], []⟩)
    (fun a => Gm.zer a.1 + (if a.2 then 1 else 0)) (fun a => DepI g.events a.1 ∧ ∃ j, a.1 = Gm.iterD g.events j (List.replicate g.events.length 0) ∧ j + Gm.zer a.1 ≤ g.events.length ∧ (a.2 = true ∨ Gm.passD g.events a.1 = a.1))
    (List.replicate g.events.length 0, true) [0, 1] ⟨⟨Gm.OkD.zero _, Gm.BdD.zero _⟩, 0, rfl, by rw [Gm.zer_rep]; omega, .inl rfl⟩ ?_ ?_
  · rw [Gm.zer_rep]
    simp only [mvcgen_simp, method_specs_simp, seval, encGr]
  · rintro ⟨d, ch⟩ ⟨hd, j0, hj1, hj2, hj3⟩
    simp only at hd hj1 hj2 hj3
    refine CW.sound ?_
    have hlen := hd.ok.len
    simp (maxSteps := 4000000) only [method_specs_simp, seval, encGr]
    have fin : Gm.passD g.events d = d → Gm.depthsE g.events = d := fun h => Gm.depths_of hj1 hj2 h
    have finz : Gm.zer d = 0 → Gm.depthsE g.events = d := fun h => fin (Gm.pass_done hd.ok h)
    refine gB_split (fun hc => ?_) (fun hc => ?_)
    · refine gB_split (fun hz => ?_) (fun hz => ?_)
      · simp only [decide_eq_true_eq] at hz
        refine SW.while (A := Nat) (fun k => ⟨pad 78 ([.junk, .ptr 0 0, .nil, .bool false, .ar 1 0 g.events.length, .int .i64 (Gm.zer (Gm.passK g.events d k) : Nat), .bool (decide (Gm.zer (Gm.passK g.events d k) < Gm.zer d))] ++ List.replicate 20 .junk ++ [.sl 9 (g.events.map encEv), .int .i64 g.events.length, .int .i64 k]), [.box true (encGr g), .arr true 1 ((Gm.passK g.events d k).map encI)], []⟩)
          (fun k => g.events.length - k) (fun k => k ≤ g.events.length) 0 [0, 1] (Nat.zero_le _) ?_ ?_
        · rw [Gm.passK_zero, show decide (Gm.zer d < Gm.zer d) = false by simp]
          simp only [mvcgen_simp, method_specs_simp, seval, encGr]
        · intro k hk
          have hdk : DepI g.events (Gm.passK g.events d k) := ⟨Gm.passK_ok hd.ok k, Gm.passK_bd hd.ok hd.bd k⟩
          have hsucc := Gm.passK_succ g.events d k
          generalize hD : Gm.passK g.events d k = D at hdk hsucc
          have hDl := hdk.ok.len
          refine CW.sound ?_
          simp (maxSteps := 4000000) only [method_specs_simp, seval, encGr]
          refine gB_split (fun h => ?_) (fun h => ?_)
          · simp only [decide_eq_true_eq, Int.ofNat_lt] at h
            have hxk : g.events[k]? = some g.events[k] := List.getElem?_eq_getElem h
            have hOK := hx.2 _ (List.getElem_mem h)
            have hIn := hin _ (List.getElem_mem h)
            generalize g.events[k] = e at hxk hOK hIn
            obtain ⟨x, hDk⟩ : ∃ x, D[k]? = some x := ⟨_, List.getElem?_eq_getElem (by omega)⟩
            have hDg : D.getD k 0 = x := by rw [List.getD_eq_getElem?_getD, hDk]; rfl
            have hk1 : IntKind.i64.wrap ((k : Int) + 1) = ((k + 1 : Nat) : Int) := by rw [wrap_id (by omega) (by omega)]; rfl
            simp (maxSteps := 4000000) only [List.getElem?_map, hxk, hDk, encEv, encGr, encI, method_specs_simp, seval, hk1]
            refine ⟨by omega, by omega, by omega, by omega, ?_⟩
            have hzle : Gm.zer D ≤ Gm.zer d := by
              rcases Gm.passK_zer hd.ok k with h1 | h1
              · rw [hD] at h1; rw [h1]; exact Nat.le_refl _
              · rw [hD] at h1; omega
            have hx0 : 0 ≤ x := hdk.ok.nn x (List.mem_of_getElem? hDk)
            refine gB_split (fun h1 => ?_) (fun h1 => ?_)
            · simp only [decide_eq_true_eq] at h1
              have hst : Gm.stepD g.events D k = D := by unfold Gm.stepD; rw [hDg, if_pos h1]
              refine Again.mk (k + 1) [0, 1] h (Nat.sub_lt_sub_left h (Nat.lt_succ_self _)) ?_
              rw [hsucc, hst]
              simp only [mvcgen_simp, method_specs_simp, seval, encGr]
            · simp only [decide_eq_false_iff_not, Bool.not_true] at h1
              have hxz : x = 0 := by omega
              subst hxz
              have hzz : 1 ≤ Gm.zer D := by
                have := Gm.zer_set hDk (x := 1) (by decide)
                omega
              refine SW.while (A := Nat × Int) (fun a => ⟨pad 78 ([.junk, .ptr 0 0, .nil, .bool false, .ar 1 0 g.events.length, .int .i64 (Gm.zer D : Nat), .bool (decide (Gm.zer D < Gm.zer d)), .int .i64 k, .ptr 2 0, .int .i64 a.2] ++ List.replicate 17 .junk ++ [.sl 9 (g.events.map encEv), .int .i64 g.events.length, .int .i64 k] ++ List.replicate 10 .junk ++ [.sl 1 (e.prev.map encI), .int .i64 e.prev.length, .int .i64 a.1]), [.box true (encGr g), .arr true 1 (D.map encI), .box true (encEv e)], []⟩)
                (fun a => e.prev.length - a.1) (fun a => a.1 ≤ e.prev.length ∧ 1 ≤ a.2 ∧ a.2 ≤ g.events.length + 1 ∧ Gm.ownD g.events D e = if (e.prev.drop a.1).all (fun p => decide (Gm.dAt g.events D p > 0)) then (e.prev.drop a.1).foldl (fun o p => if Gm.dAt g.events D p + 1 > o then Gm.dAt g.events D p + 1 else o) a.2 else 0) (0, 1) [0, 1, 2]
                ⟨Nat.zero_le _, Int.le_refl _, by simp only; omega, Gm.ownD_fold _ _ _⟩ ?_ ?_
              · simp only [mvcgen_simp, method_specs_simp, seval, encGr, encEv]
              · rintro ⟨j, own⟩ ⟨hj, ho1, ho2, hown⟩
                simp only at hj ho1 ho2 hown
                have hel := hOK.2
                refine CW.sound ?_
                simp (maxSteps := 4000000) only [encEv, method_specs_simp, seval, encGr]
                refine gB_split (fun h3 => ?_) (fun h3 => ?_)
                · simp only [decide_eq_true_eq, Int.ofNat_lt] at h3
                  have hpj : e.prev[j]? = some e.prev[j] := List.getElem?_eq_getElem h3
                  have hpin : Gm.hasId g.events e.prev[j] = true := List.all_eq_true.1 hIn _ (List.getElem_mem h3)
                  generalize e.prev[j] = q at hpj hpin
                  have hDq := Gm.dAt_get hs hdk.ok hpin
                  obtain ⟨hq0, hq1⟩ := hdk.le q
                  have hpos : Gm.posE g.events q < g.events.length := by have := Gm.fid_lt hpin; rw [Gm.fid_pos hs hpin] at this; exact this
                  rw [drop_cons hpj] at hown
                  simp (maxSteps := 4000000) only [List.getElem?_map, hpj, encEv, encGr, encI, method_specs_simp, seval]
                  refine ⟨by omega, by omega, ?_⟩
                  refine clY.con (c_find g.events q (by omega) hs) (by simp only [method_specs_simp]) ?_
                  simp (maxSteps := 4000000) only [List.getElem?_map, hDq, encEv, encGr, encI, method_specs_simp, seval]
                  refine ⟨by omega, by omega, ?_⟩
                  refine gB_split (fun h4 => ?_) (fun h4 => ?_)
                  · simp only [beq_iff_eq] at h4
                    have hz0 : Gm.ownD g.events D e = 0 := by
                      rw [hown]
                      simp [h4]
                    have hst : Gm.stepD g.events D k = D := by unfold Gm.stepD; rw [hDg, if_neg (by decide), hxk]; simp only; rw [hz0, if_neg (by decide)]
                    rw [hk1]
                    refine Again.mk (k + 1) [0, 1] h (Nat.sub_lt_sub_left h (Nat.lt_succ_self _)) ?_
                    rw [hsucc, hst]
                    simp only [mvcgen_simp, method_specs_simp, seval, encGr]
                  · simp only [Bool.not_true, beq_eq_false_iff_ne, ne_eq] at h4
                    have w1 : IntKind.i64.wrap (Gm.dAt g.events D q + 1) = Gm.dAt g.events D q + 1 := wrap_id (by omega) (by omega)
                    refine ⟨by omega, by omega, ?_⟩
                    simp (maxSteps := 4000000) only [w1, mm, encEv, encGr, encI, method_specs_simp, seval]
                    rw [wrap_id (n := (j : Int) + 1) (by omega) (by omega)]
                    refine Again.mk (j + 1, if Gm.dAt g.events D q + 1 > own then Gm.dAt g.events D q + 1 else own) [0, 1, 2] ⟨h3, ?_, ?_, ?_⟩ (Nat.sub_lt_sub_left h3 (Nat.lt_succ_self _)) ?_
                    · simp only; split <;> omega
                    · simp only; split <;> omega
                    · rw [hown]
                      have : decide (Gm.dAt g.events D q > 0) = true := by simp; omega
                      simp only [List.all_cons, this, Bool.true_and, List.foldl_cons]
                    · simp only [mvcgen_simp, method_specs_simp, seval, encGr, encEv, encGr]
                · simp only [decide_eq_false_iff_not, Bool.not_true, Int.ofNat_lt] at h3
                  rw [List.drop_eq_nil_of_le (by omega)] at hown
                  simp only [List.all_nil, if_true, List.foldl_nil] at hown
                  have hop : decide (own > 0) = true := by simp; omega
                  have w2 : IntKind.i64.wrap (((Gm.zer D : Nat) : Int) - 1) = ((Gm.zer D - 1 : Nat) : Int) := by
                    have := Gm.zer_le D
                    rw [wrap_id (by omega) (by omega)]; omega
                  have hst : Gm.stepD g.events D k = D.set k own := by unfold Gm.stepD; rw [hDg, if_neg (by decide), hxk]; simp only; rw [hown, if_pos (by omega)]
                  have hzs := Gm.zer_set hDk (x := own) (by omega)
                  have eg : (D.map encI).getD k [] = encI 0 := by rw [List.getD_eq_getElem?_getD, map_getE _ hDk]; rfl
                  have es : (D.map encI).set k (V.int IntKind.i64 own :: List.drop 1 ((D.map encI).getD k [])) = (D.set k own).map encI := by rw [eg, List.map_set]; rfl
                  simp (maxSteps := 4000000) only [hop, w2, hk1, encEv, encGr, method_specs_simp, seval]
                  refine ⟨by omega, by omega, by omega, ?_⟩
                  rw [es]
                  refine Again.mk (k + 1) [0, 1] h (Nat.sub_lt_sub_left h (Nat.lt_succ_self _)) ?_
                  have ec : decide (Gm.zer (D.set k own) < Gm.zer d) = true := by simp; omega
                  rw [hsucc, hst, ec, show Gm.zer D - 1 = Gm.zer (D.set k own) by omega]
                  simp only [mvcgen_simp, method_specs_simp, seval, encGr]
          · simp only [decide_eq_false_iff_not, Bool.not_true, Int.ofNat_lt] at h
            have hkn : k = g.events.length := by omega
            subst hkn
            have hpD : Gm.passD g.events d = D := hD
            rcases Gm.passK_zer hd.ok g.events.length with h1 | h1
            · rw [hD] at h1
              subst h1
              refine Again.mk (D, decide (Gm.zer D < Gm.zer D)) [0, 1] ⟨hdk, j0, hj1, hj2, .inr hpD⟩ (by simp [hc]) ?_
              simp only [mvcgen_simp, method_specs_simp, seval, encGr]
            · rw [hD] at h1
              refine Again.mk (D, decide (Gm.zer D < Gm.zer d)) [0, 1] ⟨hdk, j0 + 1, ?_, ?_, .inl (by simpa using h1)⟩ (by simp [hc, h1]) ?_
              · simp only
                rw [Gm.iter_succ, ← hj1, hpD]
              · simp only; omega
              · simp only [mvcgen_simp, method_specs_simp, seval, encGr]
      · simp only [decide_eq_false_iff_not, Bool.not_true] at hz
        have hz0 : Gm.zer d = 0 := by omega
        have ht : List.take g.events.length (List.map encI d) = List.map encI d := List.take_of_length_le (by simp [hlen])
        rw [Gm.allPos_iff, finz hz0, hz0, ht]
        simp [encI_refs]
    · simp only [Bool.not_true] at hc
      have := fin (hj3.resolve_left (by simp [hc]))
      have ht : List.take g.events.length (List.map encI d) = List.map encI d := List.take_of_length_le (by simp [hlen])
      have e0 : (((Gm.zer d : Nat) : Int) == 0) = decide (Gm.zer d = 0) := by
        rw [Bool.eq_iff_iff]; simp
      rw [Gm.allPos_iff, this, ht, e0]
      simp [encI_refs]
end
end Go.Proofs.Ytkcllejnmpnjfaa
