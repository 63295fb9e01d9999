/- Sorting in place, stable: merging, all cases. Conditions: lengths that fit a machine. -/
import Derived.Test.YtkcllejnmpnjfaaH4
namespace Go.Proofs.Ytkcllejnmpnjfaa
open Go.Pm
open Go.Gm (LtD ltD StD srtD)
set_option maxRecDepth 10000
set_option linter.unusedSimpArgs false
set_option linter.unusedVariables false
set_option maxHeartbeats 4000000
section
variable {P : Program} [Is P]
theorem n_symG {d : Int → Int} (c : FuncId) (dl : List Int) {l l' : List Int} {n a m b : Nat} {A L R B : List Int} (g : MG P d c dl l l' n a m b A L R B) (c1 : L.length ≠ 1) (c2 : R.length ≠ 1)
    (IH : ∀ {l l' : List Int} {n a m b : Nat} {A L' R' B : List Int}, L'.length + R'.length < L.length + R.length → MG P d c dl l l' n a m b A L' R' B → LCon P 258 [.ar 0 0 n, .int .i64 a, .int .i64 m, .int .i64 b, .fn c [] [.fptr [.sl 1 (dl.map encI)] 0]] [.arr true 1 (l.map encI)] (.tup []) [.arr true 1 (l'.map encI)]) :
    LCon P 258 [.ar 0 0 n, .int .i64 a, .int .i64 m, .int .i64 b, .fn c [] [.fptr [.sl 1 (dl.map encI)] 0]] [.arr true 1 (l.map encI)] (.tup []) [.arr true 1 (l'.map encI)] := by
  have w1 : IntKind.i64.wrap ((m : Int) - (a : Int)) = (L.length : Int) := by have := g.hm; have := g.hb; have := g.bn; have := g.hlt; rw [wsub m a (by omega) (by omega)]; omega
  have w2 : IntKind.i64.wrap ((b : Int) - (m : Int)) = (R.length : Int) := by have := g.hm; have := g.hb; have := g.bn; have := g.hlt; rw [wsub b m (by omega) (by omega)]; omega
  have l2 : 2 ≤ L.length := by have := g.l1; omega
  have r2 : 2 ≤ R.length := by have := g.r1; omega
  have d1 : ((L.length : Int) == 1) = false := by rw [beq_eq_false_iff_ne]; omega
  have d2 : ((R.length : Int) == 1) = false := by rw [beq_eq_false_iff_ne]; omega
  have hln := g.hn.symm
  obtain ⟨mid, hmid⟩ : ∃ mid, mid = (a + b) / 2 := ⟨_, rfl⟩
  obtain ⟨nn, hnn⟩ : ∃ nn, nn = mid + m := ⟨_, rfl⟩
  have wm : IntKind.i64.wrap ((IntKind.u64.wrap (IntKind.i64.wrap ((a : Int) + (b : Int)))).fdiv (2 ^ min 1 IntKind.u64.bits)) = (mid : Int) := by have := g.hm; have := g.hb; have := g.bn; have := g.hlt; rw [hmid]; exact mid_at a b (by omega)
  have wnn : IntKind.i64.wrap ((mid : Int) + (m : Int)) = (nn : Int) := by have := g.hm; have := g.hb; have := g.bn; have := g.hlt; rw [hnn]; exact wadd mid m (by omega)
  obtain ⟨lo, hi, pp, hpp, f1, f2, f3, f4, f5, f6, f7, f8⟩ := sym_start g.hm g.hb hmid hnn l2 r2
  have wp : IntKind.i64.wrap ((nn : Int) - 1) = (pp : Int) := by have := g.hm; have := g.hb; have := g.bn; have := g.hlt; rw [wsub1 nn (by omega) (by omega)]; congr 1; omega
  have wl : nn = b + lo → IntKind.i64.wrap ((nn : Int) - (b : Int)) = (lo : Int) := fun h => by have := g.hm; have := g.hb; have := g.bn; have := g.hlt; rw [wsub nn b (by omega) (by omega)]; congr 1; omega
  refine LCon.of (n := 220) (rs := []) (Is.fn Try.func258) rfl (Is.call Try.call258) Try.results258 Try.ntmps258 ?_
  simp (maxSteps := 4000000) only [method_specs_simp, seval, w1, w2]
  simp (maxSteps := 4000000) only [method_specs_simp, seval, d1, w2, d2, wm, wnn]
  refine gB_split (fun h1 => ?k1) (fun h1 => ?k2)
  case' k1 =>
    simp only [decide_eq_true_eq, gt_iff_lt, Int.ofNat_lt] at h1
    obtain ⟨q1, q2⟩ : nn = b + lo ∧ hi = mid := f8.el (fun q => q.2) (fun q => absurd h1 q.1)
    have q1 := wl q1
    rw [q1, wp]
    have q3 : (mid : Int) = (hi : Int) := by rw [q2]
  case' k2 =>
    simp only [decide_eq_false_iff_not, Bool.not_true, gt_iff_lt, Int.ofNat_lt] at h1
    obtain ⟨q1, q2⟩ : lo = a ∧ hi = m := f8.el (fun q => absurd q.1 h1) (fun q => q.2)
    have q3 : (a : Int) = (lo : Int) ∧ (m : Int) = (hi : Int) := ⟨by rw [q1], by rw [q2]⟩
    rw [wp]
  all_goals
    refine SW.while (A := Nat × Nat) (fun p => ⟨pad 220 [.ar 0 0 n, .int .i64 a, .int .i64 m, .int .i64 b, .fn c [] [.fptr [.sl 1 (dl.map encI)] 0], .junk, .junk, .junk, .junk, .junk, .junk, .junk, .junk, .junk, .junk, .junk, .junk, .junk, .int .i64 mid, .int .i64 nn, .int .i64 p.1, .int .i64 p.2, .int .i64 pp], [.arr true 1 (l.map encI)], [.ar 0 0 n, .eptr 0 1 0]⟩)
      (fun p => p.2 - p.1) (fun p => SI d L R a mid lo hi p.1 p.2) (lo, hi) [0] ⟨Nat.le_refl _, f2, Nat.le_refl _, .inl rfl, .inl rfl⟩ ?_ ?_
    · simp only [mvcgen_simp, method_specs_simp, seval]
      first | exact ⟨trivial, hln.symm⟩ | exact ⟨trivial, trivial, hln.symm⟩ | exact q3 | exact ⟨q3, hln.symm⟩ | exact ⟨q3.1, q3.2, hln.symm⟩ | simp only [q1, q2, hln, and_self]
    · rintro ⟨i, j⟩ hs
      simp only at hs
      refine CW.sound ?_
      simp (maxSteps := 4000000) only [method_specs_simp, seval, hln]
      refine gB_split (fun h2 => ?_) (fun h2 => ?_)
      · simp only [decide_eq_true_eq, Int.ofNat_lt] at h2
        obtain ⟨k, v, x, y, wk, wk1, wv, hlx, hly, hxL, hyR, b1, b2, b3, b4, m1, m2, s1, s2⟩ := sym_probe g hmid hnn hpp f1 f3 f4 f5 hs h2
        have hle := g.cmp (x := x) (y := y) hxL hyR
        simp (maxSteps := 4000000) only [wk, wv]
        refine ⟨by kernel_rfl, b3, b4, ?_⟩
        simp (maxSteps := 4000000) only [method_specs_simp, seval, hlx, hly, encI, wk, wv]
        refine ⟨b1, b2, ?_⟩
        refine clY.conC (g.hc y (by simp [hyR]) x (by simp [hxL])) rfl (by simp only [method_specs_simp]) ?_
        simp (maxSteps := 4000000) only [method_specs_simp, seval, hle, wk1]
        cases h3 : ltD d y x
        · simp (maxSteps := 4000000) only [method_specs_simp, seval, h3, wk1]
          refine Again.mk (k + 1, j) [0] (s2 (by unfold LtD; rw [h3]; decide)) m2 ?_
          simp only [mvcgen_simp, method_specs_simp, seval]
        · simp (maxSteps := 4000000) only [method_specs_simp, seval, h3, wk1]
          refine Again.mk (i, k) [0] (s1 h3) m1 ?_
          simp only [mvcgen_simp, method_specs_simp, seval]
      · have hij2 : i = j := by have := hs.h2; simp only [decide_eq_false_iff_not, Bool.not_true, Int.ofNat_lt] at h2; omega
        subst hij2
        obtain ⟨en, u, t, z0, z1, wen, sp⟩ := sym_done g IH hmid hnn l2 r2 f1 f3 f4 f5 f6 f7 hs
        have dt : ∀ {p : Prop} [Decidable p], p → decide p = true := fun h => decide_eq_true h
        have df : ∀ {p : Prop} [Decidable p], ¬ p → decide p = false := fun h => decide_eq_false h
        simp (maxSteps := 4000000) only [method_specs_simp, seval, wen, sp.c1, sp.c2, sp.c3, sp.c4, sp.c5, sp.c6]
        by_cases k1 : u < L.length
        · by_cases k2 : 0 < t
          · simp (maxSteps := 4000000) only [method_specs_simp, seval, wen, sp.c1, sp.c2, sp.c3, sp.c4, sp.c5, sp.c6, dt k1, dt k2]
            refine clY.live [0] [] (sp.rot k1 k2) ?_ (by simp) ?_
            · simp only [mvcgen_simp, method_specs_simp, seval, wen, sp.c1, sp.c2, sp.c3, sp.c4, sp.c5, sp.c6]
            simp (maxSteps := 4000000) only [method_specs_simp, seval, wen, sp.c1, sp.c2, sp.c3, sp.c4, sp.c5, sp.c6, dt k1, dt k2]
            by_cases k3 : 0 < u
            · simp (maxSteps := 4000000) only [method_specs_simp, seval, wen, sp.c1, sp.c2, sp.c3, sp.c4, sp.c5, sp.c6, dt k3]
              refine clY.live [0] [] (sp.rec1 k3 k2) ?_ (by simp) ?_
              · simp only [mvcgen_simp, method_specs_simp, seval, wen, sp.c1, sp.c2, sp.c3, sp.c4, sp.c5, sp.c6]
              simp (maxSteps := 4000000) only [method_specs_simp, seval, wen, sp.c1, sp.c2, sp.c3, sp.c4, sp.c5, sp.c6, dt k1]
              by_cases k4 : t < R.length
              · simp (maxSteps := 4000000) only [method_specs_simp, seval, wen, sp.c1, sp.c2, sp.c3, sp.c4, sp.c5, sp.c6, dt k4]
                refine clY.live [0] [] (sp.rec2 k1 k4) ?_ (by simp) ?_
                · simp only [mvcgen_simp, method_specs_simp, seval, wen, sp.c1, sp.c2, sp.c3, sp.c4, sp.c5, sp.c6]
                simp (maxSteps := 4000000) only [method_specs_simp, seval, wen, sp.c1, sp.c2, sp.c3, sp.c4, sp.c5, sp.c6]
                refine LResY.mk [0] ?_
                simp only [mvcgen_simp, method_specs_simp, seval, wen, sp.c1, sp.c2, sp.c3, sp.c4, sp.c5, sp.c6, hln]
              · simp (maxSteps := 4000000) only [method_specs_simp, seval, wen, sp.c1, sp.c2, sp.c3, sp.c4, sp.c5, sp.c6, df k4]
                refine LResY.mk [0] ?_
                simp only [mvcgen_simp, method_specs_simp, seval, wen, sp.c1, sp.c2, sp.c3, sp.c4, sp.c5, sp.c6, hln, sp.no2 fun h => k4 h.2]
            · have e01 := sp.no1 fun h => k3 h.1
              simp (maxSteps := 4000000) only [method_specs_simp, seval, wen, sp.c1, sp.c2, sp.c3, sp.c4, sp.c5, sp.c6, df k3, e01]
              by_cases k4 : t < R.length
              · simp (maxSteps := 4000000) only [method_specs_simp, seval, wen, sp.c1, sp.c2, sp.c3, sp.c4, sp.c5, sp.c6, dt k4]
                refine clY.live [0] [] (sp.rec2 k1 k4) ?_ (by simp) ?_
                · simp only [mvcgen_simp, method_specs_simp, seval, wen, sp.c1, sp.c2, sp.c3, sp.c4, sp.c5, sp.c6]
                simp (maxSteps := 4000000) only [method_specs_simp, seval, wen, sp.c1, sp.c2, sp.c3, sp.c4, sp.c5, sp.c6]
                refine LResY.mk [0] ?_
                simp only [mvcgen_simp, method_specs_simp, seval, wen, sp.c1, sp.c2, sp.c3, sp.c4, sp.c5, sp.c6, hln]
              · simp (maxSteps := 4000000) only [method_specs_simp, seval, wen, sp.c1, sp.c2, sp.c3, sp.c4, sp.c5, sp.c6, df k4]
                refine LResY.mk [0] ?_
                simp only [mvcgen_simp, method_specs_simp, seval, wen, sp.c1, sp.c2, sp.c3, sp.c4, sp.c5, sp.c6, hln, sp.no2 fun h => k4 h.2]
          · have e01 := (sp.no0 fun h => k2 h.2).trans (sp.no1 fun h => k2 h.2)
            simp (maxSteps := 4000000) only [method_specs_simp, seval, wen, sp.c1, sp.c2, sp.c3, sp.c4, sp.c5, sp.c6, dt k1, df k2, e01]
            by_cases k3 : 0 < u
            · simp (maxSteps := 4000000) only [method_specs_simp, seval, wen, sp.c1, sp.c2, sp.c3, sp.c4, sp.c5, sp.c6, dt k3]
              by_cases k4 : t < R.length
              · simp (maxSteps := 4000000) only [method_specs_simp, seval, wen, sp.c1, sp.c2, sp.c3, sp.c4, sp.c5, sp.c6, dt k4]
                refine clY.live [0] [] (sp.rec2 k1 k4) ?_ (by simp) ?_
                · simp only [mvcgen_simp, method_specs_simp, seval, wen, sp.c1, sp.c2, sp.c3, sp.c4, sp.c5, sp.c6]
                simp (maxSteps := 4000000) only [method_specs_simp, seval, wen, sp.c1, sp.c2, sp.c3, sp.c4, sp.c5, sp.c6]
                refine LResY.mk [0] ?_
                simp only [mvcgen_simp, method_specs_simp, seval, wen, sp.c1, sp.c2, sp.c3, sp.c4, sp.c5, sp.c6, hln]
              · simp (maxSteps := 4000000) only [method_specs_simp, seval, wen, sp.c1, sp.c2, sp.c3, sp.c4, sp.c5, sp.c6, df k4]
                refine LResY.mk [0] ?_
                simp only [mvcgen_simp, method_specs_simp, seval, wen, sp.c1, sp.c2, sp.c3, sp.c4, sp.c5, sp.c6, hln, sp.no2 fun h => k4 h.2]
            · simp (maxSteps := 4000000) only [method_specs_simp, seval, wen, sp.c1, sp.c2, sp.c3, sp.c4, sp.c5, sp.c6, df k3]
              by_cases k4 : t < R.length
              · simp (maxSteps := 4000000) only [method_specs_simp, seval, wen, sp.c1, sp.c2, sp.c3, sp.c4, sp.c5, sp.c6, dt k4]
                refine clY.live [0] [] (sp.rec2 k1 k4) ?_ (by simp) ?_
                · simp only [mvcgen_simp, method_specs_simp, seval, wen, sp.c1, sp.c2, sp.c3, sp.c4, sp.c5, sp.c6]
                simp (maxSteps := 4000000) only [method_specs_simp, seval, wen, sp.c1, sp.c2, sp.c3, sp.c4, sp.c5, sp.c6]
                refine LResY.mk [0] ?_
                simp only [mvcgen_simp, method_specs_simp, seval, wen, sp.c1, sp.c2, sp.c3, sp.c4, sp.c5, sp.c6, hln]
              · simp (maxSteps := 4000000) only [method_specs_simp, seval, wen, sp.c1, sp.c2, sp.c3, sp.c4, sp.c5, sp.c6, df k4]
                refine LResY.mk [0] ?_
                simp only [mvcgen_simp, method_specs_simp, seval, wen, sp.c1, sp.c2, sp.c3, sp.c4, sp.c5, sp.c6, hln, sp.no2 fun h => k4 h.2]
        · have e0 := sp.no0 fun h => k1 h.1
          have e2 := sp.no2 fun h => k1 h.1
          simp (maxSteps := 4000000) only [method_specs_simp, seval, wen, sp.c1, sp.c2, sp.c3, sp.c4, sp.c5, sp.c6, df k1, e0]
          by_cases k2 : 0 < t
          · simp (maxSteps := 4000000) only [method_specs_simp, seval, wen, sp.c1, sp.c2, sp.c3, sp.c4, sp.c5, sp.c6, dt k2]
            by_cases k3 : 0 < u
            · simp (maxSteps := 4000000) only [method_specs_simp, seval, wen, sp.c1, sp.c2, sp.c3, sp.c4, sp.c5, sp.c6, dt k3]
              refine clY.live [0] [] (sp.rec1 k3 k2) ?_ (by simp) ?_
              · simp only [mvcgen_simp, method_specs_simp, seval, wen, sp.c1, sp.c2, sp.c3, sp.c4, sp.c5, sp.c6]
              simp (maxSteps := 4000000) only [method_specs_simp, seval, wen, sp.c1, sp.c2, sp.c3, sp.c4, sp.c5, sp.c6, df k1]
              refine LResY.mk [0] ?_
              simp only [mvcgen_simp, method_specs_simp, seval, wen, sp.c1, sp.c2, sp.c3, sp.c4, sp.c5, sp.c6, hln, e2]
            · simp (maxSteps := 4000000) only [method_specs_simp, seval, wen, sp.c1, sp.c2, sp.c3, sp.c4, sp.c5, sp.c6, df k3]
              refine LResY.mk [0] ?_
              simp only [mvcgen_simp, method_specs_simp, seval, wen, sp.c1, sp.c2, sp.c3, sp.c4, sp.c5, sp.c6, hln, sp.no1 fun h => k3 h.1, e2]
          · simp (maxSteps := 4000000) only [method_specs_simp, seval, wen, sp.c1, sp.c2, sp.c3, sp.c4, sp.c5, sp.c6, df k2]
            by_cases k3 : 0 < u
            · simp (maxSteps := 4000000) only [method_specs_simp, seval, wen, sp.c1, sp.c2, sp.c3, sp.c4, sp.c5, sp.c6, dt k3]
              refine LResY.mk [0] ?_
              simp only [mvcgen_simp, method_specs_simp, seval, wen, sp.c1, sp.c2, sp.c3, sp.c4, sp.c5, sp.c6, hln, sp.no1 fun h => k2 h.2, e2]
            · simp (maxSteps := 4000000) only [method_specs_simp, seval, wen, sp.c1, sp.c2, sp.c3, sp.c4, sp.c5, sp.c6, df k3]
              refine LResY.mk [0] ?_
              simp only [mvcgen_simp, method_specs_simp, seval, wen, sp.c1, sp.c2, sp.c3, sp.c4, sp.c5, sp.c6, hln, sp.no1 fun h => k2 h.2, e2]
theorem n_symMerge {d : Int → Int} (c : FuncId) (dl : List Int) : ∀ (s : Nat) {l l' : List Int} {n a m b : Nat} {A L R B : List Int}, L.length + R.length ≤ s → MG P d c dl l l' n a m b A L R B →
    LCon P 258 [.ar 0 0 n, .int .i64 a, .int .i64 m, .int .i64 b, .fn c [] [.fptr [.sl 1 (dl.map encI)] 0]] [.arr true 1 (l.map encI)] (.tup []) [.arr true 1 (l'.map encI)]
  | 0, l, l', n, a, m, b, A, L, R, B, hz, g => by have := g.l1; omega
  | s + 1, l, l', n, a, m, b, A, L, R, B, hz, g => by
    by_cases c1 : L.length = 1
    · exact n_sym1 c dl g c1
    · by_cases c2 : R.length = 1
      · exact n_sym2 c dl g c1 c2
      · exact n_symG c dl g c1 c2 fun h g' => n_symMerge c dl s (by omega) g'
end
end Go.Proofs.Ytkcllejnmpnjfaa
