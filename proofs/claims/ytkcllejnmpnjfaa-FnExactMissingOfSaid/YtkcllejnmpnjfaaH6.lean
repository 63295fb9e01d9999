/- Sorting in place, stable. Conditions: lengths that fit a machine. -/
import Derived.Test.YtkcllejnmpnjfaaH5
namespace Go.Proofs.Ytkcllejnmpnjfaa
open Go.Pm
open Go.Gm (LtD ltD StD srtD)
set_option maxRecDepth 10000
set_option linter.unusedSimpArgs false
set_option linter.unusedVariables false
set_option maxHeartbeats 4000000
section
variable {P : Program} [Is P]
theorem n_stable {d : Int → Int} (c : FuncId) (dl : List Int) {l : List Int} {n : Nat} (hc : ∀ x ∈ l, ∀ y ∈ l, Con P c [.int .i64 x, .int .i64 y, .fptr [.sl 1 (dl.map encI)] 0] (.int .i64 (cmpI (d x) (d y)))) (hs : StD d l) (hn : l.length = n) (hlt : n < 2 ^ 58) :
    LCon P 239 [.ar 0 0 n, .int .i64 n, .fn c [] [.fptr [.sl 1 (dl.map encI)] 0]] [.arr true 1 (l.map encI)] (.tup []) [.arr true 1 ((srtD d l).map encI)] := by
  refine LCon.of (n := 63) (rs := []) (Is.fn Try.func239) rfl (Is.call Try.call239) Try.results239 Try.ntmps239 ?_
  simp (maxSteps := 4000000) only [method_specs_simp, seval]
  refine SW.while (A := Nat × Nat × List Int) (fun p => ⟨pad 63 [.ar 0 0 n, .int .i64 n, .fn c [] [.fptr [.sl 1 (dl.map encI)] 0], .junk, .junk, .junk, .int .i64 20, .int .i64 p.1, .int .i64 p.2.1], [.arr true 1 (p.2.2.map encI)], [.ar 0 0 n, .eptr 0 1 0]⟩)
    (fun p => n + 20 - p.1) (fun p => p.2.1 = p.1 + 20 ∧ ∃ Q, Gm.Stg0 d l 20 n p.1 Q p.2.2) (0, 20, l) [0] ⟨rfl, [], rfl, Nat.zero_le _, hn, rfl, rfl⟩ ?_ ?_
  · simp only [mvcgen_simp, method_specs_simp, seval]
    exact hn.symm
  · rintro ⟨a, b, z⟩ ⟨hb, Q, sg⟩
    simp only at hb sg
    have hzl := sg.len
    refine CW.sound ?_
    simp (maxSteps := 4000000) only [method_specs_simp, seval, hzl]
    refine gB_split (fun h => ?_) (fun h => ?_)
    · simp only [decide_eq_true_eq, Int.ofNat_le] at h
      obtain ⟨X, B, e1, e2, e3, e4, sg2⟩ := sg.round (by decide) (by omega) hs
      refine clY.live [0] [] (n_insert (n := n) (a := a) (b := b) (A := Q) (X := X) (B := B) (l := z) c dl (fun x hx y hy => hc x (e4 x hx) y (e4 y hy)) e1 rfl sg.hP.symm (by omega) e3 hzl.symm (by omega)) ?_ (by simp) ?_
      · simp only [mvcgen_simp, method_specs_simp, seval]
      have wb : IntKind.i64.wrap ((b : Int) + 20) = ((b + 20 : Nat) : Int) := wadd b 20 (by omega)
      simp (maxSteps := 4000000) only [method_specs_simp, seval, wb]
      refine Again.mk (b, b + 20, Q ++ (srtD d X ++ B)) [0] ⟨rfl, _, by rw [hb]; exact sg2⟩ (by simp only; omega) ?_
      simp only [mvcgen_simp, method_specs_simp, seval]
    · simp only [decide_eq_false_iff_not, Bool.not_true, Int.ofNat_le] at h
      obtain ⟨X, e1, e2, e3, e4, e5⟩ := sg.last (by omega) hs
      refine clY.live [0] [] (n_insert (n := n) (a := a) (b := n) (A := Q) (X := X) (B := []) (l := z) c dl (fun x hx y hy => hc x (e4 x hx) y (e4 y hy)) e1 rfl sg.hP.symm (by omega) e3 hzl.symm (by omega)) ?_ (by simp) ?_
      · simp only [mvcgen_simp, method_specs_simp, seval]
      rw [← e5]
      refine SW.while (A := Nat) (fun bs => ⟨pad 63 [.ar 0 0 n, .int .i64 n, .fn c [] [.fptr [.sl 1 (dl.map encI)] 0], .junk, .junk, .junk, .int .i64 bs], [.arr true 1 ((Gm.blk d bs l).map encI)], [.ar 0 0 n, .eptr 0 1 0]⟩)
        (fun bs => n - bs) (fun bs => 20 ≤ bs ∧ bs < 2 ^ 59) 20 [0] ⟨Nat.le_refl _, by decide⟩ ?_ ?_
      · simp only [mvcgen_simp, method_specs_simp, seval]
      · rintro bs ⟨h20, hbs⟩
        refine CW.sound ?_
        simp (maxSteps := 4000000) only [method_specs_simp, seval]
        refine gB_split (fun h1 => ?_) (fun h1 => ?_)
        · simp only [decide_eq_true_eq, Int.ofNat_lt] at h1
          have w2 : IntKind.i64.wrap (2 * (bs : Int)) = ((2 * bs : Nat) : Int) := by rw [wrap_id (by omega) (by omega)]; omega
          obtain ⟨b2, hb2⟩ : ∃ b2, b2 = 2 * bs := ⟨_, rfl⟩
          rw [w2, ← hb2]
          refine SW.while (A := Nat × Nat × List Int) (fun p => ⟨pad 63 [.ar 0 0 n, .int .i64 n, .fn c [] [.fptr [.sl 1 (dl.map encI)] 0], .junk, .junk, .junk, .int .i64 bs, .int .i64 p.1, .int .i64 p.2.1], [.arr true 1 (p.2.2.map encI)], [.ar 0 0 n, .eptr 0 1 0]⟩)
            (fun p => n + b2 - p.1) (fun p => p.2.1 = p.1 + b2 ∧ ∃ Q, Gm.Stg d l bs (2 * bs) n p.1 Q p.2.2) (0, b2, Gm.blk d bs l) [0] ⟨by simp only; omega, [], Gm.Stg.start hn⟩ ?_ ?_
          · simp only [mvcgen_simp, method_specs_simp, seval]
          · rintro ⟨a, b, z⟩ ⟨hb, Q, sg⟩
            simp only at hb sg
            have hzl := sg.len
            have ha := sg.ha
            have wm : IntKind.i64.wrap ((a : Int) + (bs : Int)) = ((a + bs : Nat) : Int) := wadd a bs (by omega)
            obtain ⟨m, hm⟩ : ∃ m, m = a + bs := ⟨_, rfl⟩
            rw [← hm] at wm
            refine CW.sound ?_
            simp (maxSteps := 4000000) only [method_specs_simp, seval, hzl]
            refine gB_split (fun h2 => ?_) (fun h2 => ?_)
            · simp only [decide_eq_true_eq, Int.ofNat_le] at h2
              obtain ⟨L, R, B, z', e1, e2, e3, e4, e5, e6, e7, e8, sg2⟩ := sg.round (by omega) (by omega) hs
              have hmg : MG P d c dl z z' n a m b Q L R B := ⟨e1, e2, sg.hP.symm, by omega, by omega, by omega, by omega, e5, e6, e7, fun x hx y hy => hc x (e8 x hx) y (e8 y hy), hzl.symm, by omega⟩
              simp (maxSteps := 4000000) only [method_specs_simp, seval, wm]
              refine clY.live [0] [] (n_symMerge c dl _ (Nat.le_refl _) hmg) ?_ (by simp) ?_
              · simp only [mvcgen_simp, method_specs_simp, seval]
              have wb : IntKind.i64.wrap ((b : Int) + IntKind.i64.wrap (2 * (bs : Int))) = ((b + b2 : Nat) : Int) := by rw [w2, ← hb2]; exact wadd b b2 (by omega)
              obtain ⟨bb, hbb⟩ : ∃ bb, bb = b + b2 := ⟨_, rfl⟩
              rw [← hbb] at wb
              simp (maxSteps := 4000000) only [method_specs_simp, seval, wb]
              refine Again.mk (b, bb, z') [0] ⟨hbb, _, by rw [hb, hb2]; exact sg2⟩ (by simp only; omega) ?_
              simp only [mvcgen_simp, method_specs_simp, seval]
            · simp only [decide_eq_false_iff_not, Bool.not_true, Int.ofNat_le] at h2
              have wq : IntKind.i64.wrap ((bs : Int) * 2) = (b2 : Int) := by rw [wrap_id (by omega) (by omega)]; omega
              simp (maxSteps := 4000000) only [method_specs_simp, seval, wm]
              refine gB_split (fun h3 => ?_) (fun h3 => ?_)
              · simp only [decide_eq_true_eq, Int.ofNat_lt] at h3
                obtain ⟨L, R, e1, e2, e3, e4, e5, e6, e7, e8⟩ := sg.last (by omega) (by omega) (by omega) hs
                have hmg : MG P d c dl z (Gm.blk d (2 * bs) l) n a m n Q L R [] := ⟨e1, e2, sg.hP.symm, by omega, by omega, by omega, by omega, e5, e6, e7, fun x hx y hy => hc x (e8 x hx) y (e8 y hy), hzl.symm, by omega⟩
                refine clY.live [0] [] (n_symMerge c dl _ (Nat.le_refl _) hmg) ?_ (by simp) ?_
                · simp only [mvcgen_simp, method_specs_simp, seval]
                simp (maxSteps := 4000000) only [method_specs_simp, seval, wq]
                refine Again.mk b2 [0] ⟨by omega, by omega⟩ (by omega) ?_
                rw [← hb2]
                simp only [mvcgen_simp, method_specs_simp, seval]
              · simp only [decide_eq_false_iff_not, Bool.not_true, Int.ofNat_lt] at h3
                have hz2 := sg.rest (by omega)
                simp (maxSteps := 4000000) only [method_specs_simp, seval, wq]
                refine Again.mk b2 [0] ⟨by omega, by omega⟩ (by omega) ?_
                rw [hz2, ← hb2]
                simp only [mvcgen_simp, method_specs_simp, seval]
        · simp only [decide_eq_false_iff_not, Bool.not_true, Int.ofNat_lt] at h1
          have hz2 := Gm.blk_small (d := d) (bs := bs) (l := l) (by omega)
          refine LResY.mk [0] ?_
          simp only [mvcgen_simp, method_specs_simp, seval, hz2, Gm.blk_len]
          exact hn
theorem n_sortStable {d : Int → Int} (c : FuncId) (dl : List Int) {l : List Int} {n : Nat} (hc : ∀ x ∈ l, ∀ y ∈ l, Con P c [.int .i64 x, .int .i64 y, .fptr [.sl 1 (dl.map encI)] 0] (.int .i64 (cmpI (d x) (d y)))) (hs : StD d l) (hn : l.length = n) (hlt : n < 2 ^ 58) :
    LCon P 200 [.ar 0 0 n, .fn c [] [.fptr [.sl 1 (dl.map encI)] 0]] [.arr true 1 (l.map encI)] (.tup []) [.arr true 1 ((srtD d l).map encI)] := by
  refine LCon.of (n := 9) (rs := []) (Is.fn Try.func200) rfl (Is.call Try.call200) Try.results200 Try.ntmps200 ?_
  simp (maxSteps := 4000000) only [method_specs_simp, seval]
  refine clY.live [0] [] (n_stable c dl hc hs hn hlt) ?_ (by simp) ?_
  · simp only [mvcgen_simp, method_specs_simp, seval]
  simp (maxSteps := 4000000) only [method_specs_simp, seval]
  refine LResY.mk [0] ?_
  simp only [mvcgen_simp, method_specs_simp, seval, hn]
end
end Go.Proofs.Ytkcllejnmpnjfaa
