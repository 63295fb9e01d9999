/- What is allowed, by the program. Conditions: order, sizes that fit a machine. -/
import Derived.Test.YtijkkaoeijigkaaG7
import Derived.Test.YtijkkaoeijigkaaS5
namespace Go.Proofs.Ytijkkaoeijigkaa
open Go.Pm
open Go.Gm (Ev Gr)
set_option maxRecDepth 10000
set_option linter.unusedSimpArgs false
set_option linter.unusedVariables false
set_option maxHeartbeats 1000000
/-- Whether an entry is what an event of the graph says. -/
def entOf (g : Gr) (x : Ent) : Bool := (atE g.events x.id).isSome && ((((atE g.events x.id).getD zE).kind == x.kind) && (((atE g.events x.id).getD zE).key == x.key))
def stateOk (s : List Ent) : Bool := okRow (entI 1) s && decide (s.length ≤ 400)
def stateE (g : Gr) (s : List Ent) : Bool := stateOk s && s.all (entOf g)
section
variable {P : Program} [Is P]
theorem c_allowed (g : Gr) (s : List Ent) (e : Ev) (h : GS g s) : Con P 116 [.agg (encGr g), .sl 3 (s.map encEnt), .agg (encEv e)] (.int .i64 (allowedE g s e)) := by
  have h1 : List.take 3 (encGr g) = encGr g := rfl
  have h2 : 3 ≤ (encGr g).length := Nat.le_refl 3
  unfold allowedE
  refine Con.of (n := 126) (rs := [.tmp 6]) (Is.fn Try.func116) rfl (Is.call Try.call116) Try.results116 Try.ntmps116 trivial ?_
  simp (maxSteps := 4000000) only [method_specs_simp, seval, encEv, bne_not]
  refine ⟨h2, ?_⟩
  rw [h1]
  refine clY.con (c_current g s 1 0 h) (by simp only [method_specs_simp, encEv, bne_not]) ?_
  simp (maxSteps := 4000000) only [method_specs_simp, seval, encEv, bne_not]
  refine ⟨by kernel_rfl, h2, ?_⟩
  rw [h1]
  refine clY.con (c_member g s e.author h) (by simp only [method_specs_simp, encEv, bne_not]) ?_
  simp (maxSteps := 4000000) only [method_specs_simp, seval, encEv, bne_not]
  refine ⟨h2, ?_⟩
  rw [h1]
  refine clY.con (c_level g s e.author h) (by simp only [method_specs_simp, encEv, bne_not]) ?_
  simp (maxSteps := 4000000) only [method_specs_simp, seval, encEv, bne_not]
  cases k1 : (e.kind == 1)
  rotate_left
  · simp (maxSteps := 4000000) only [method_specs_simp, seval, encEv, bne_not]
    cases k2 : (curE g s 1 0).isSome
    · simp (maxSteps := 4000000) only [method_specs_simp, seval, encEv, bne_not]
      try simp
    · simp (maxSteps := 4000000) only [method_specs_simp, seval, encEv, bne_not]
      try simp
  · simp (maxSteps := 4000000) only [method_specs_simp, seval, encEv, bne_not]
    cases k2 : (curE g s 1 0).isSome
    · simp (maxSteps := 4000000) only [method_specs_simp, seval, encEv, bne_not]
      try simp
    · simp (maxSteps := 4000000) only [method_specs_simp, seval, encEv, bne_not]
      cases k3 : (e.kind == 2)
      rotate_left
      · simp (maxSteps := 4000000) only [method_specs_simp, seval, encEv, bne_not]
        cases k4 : (e.key == e.author)
        · simp (maxSteps := 4000000) only [method_specs_simp, seval, encEv, bne_not]
          cases k5 : (memberE g s e.author == 1)
          · simp (maxSteps := 4000000) only [method_specs_simp, seval, encEv, bne_not]
            try simp
          · simp (maxSteps := 4000000) only [method_specs_simp, seval, encEv, bne_not]
            refine ⟨h2, ?_⟩
            rw [h1]
            refine clY.con (c_other g s e _ h) (by simp only [method_specs_simp, encEv, bne_not]) ?_
            simp (maxSteps := 4000000) only [method_specs_simp, seval, encEv, bne_not]
            try simp
        · simp (maxSteps := 4000000) only [method_specs_simp, seval, encEv, bne_not]
          refine ⟨h2, ?_⟩
          rw [h1]
          refine clY.con (c_self g s e _ h) (by simp only [method_specs_simp, encEv, bne_not]) ?_
          simp (maxSteps := 4000000) only [method_specs_simp, seval, encEv, bne_not]
          try simp
      · simp (maxSteps := 4000000) only [method_specs_simp, seval, encEv, bne_not]
        cases k5 : (memberE g s e.author == 1)
        · simp (maxSteps := 4000000) only [method_specs_simp, seval, encEv, bne_not]
          try simp
        · simp (maxSteps := 4000000) only [method_specs_simp, seval, encEv, bne_not]
          cases k6 : (e.kind == 3)
          rotate_left
          · simp (maxSteps := 4000000) only [method_specs_simp, seval, encEv, bne_not]
            unfold powerE
            cases k7 : decide (levelE g s e.author < 50)
            rotate_left
            · simp (maxSteps := 4000000) only [method_specs_simp, seval, encEv, bne_not]
              refine clY.con (c_deniedIf _) (by simp only [method_specs_simp, encEv, bne_not]) ?_
              simp (maxSteps := 4000000) only [method_specs_simp, seval, encEv, bne_not]
              try simp
            · simp (maxSteps := 4000000) only [method_specs_simp, seval, encEv, bne_not]
              cases k8 : decide (e.n > levelE g s e.author)
              rotate_left
              · simp (maxSteps := 4000000) only [method_specs_simp, seval, encEv, bne_not]
                refine clY.con (c_deniedIf _) (by simp only [method_specs_simp, encEv, bne_not]) ?_
                simp (maxSteps := 4000000) only [method_specs_simp, seval, encEv, bne_not]
                try simp
              · simp (maxSteps := 4000000) only [method_specs_simp, seval, encEv, bne_not]
                cases k9 : (e.key == e.author)
                · simp (maxSteps := 4000000) only [method_specs_simp, seval, encEv, bne_not]
                  refine ⟨h2, ?_⟩
                  rw [h1]
                  refine clY.con (c_level g s e.key h) (by simp only [method_specs_simp, encEv, bne_not]) ?_
                  simp (maxSteps := 4000000) only [method_specs_simp, seval, encEv, bne_not]
                  refine clY.con (c_deniedIf _) (by simp only [method_specs_simp, encEv, bne_not]) ?_
                  simp (maxSteps := 4000000) only [method_specs_simp, seval, encEv, bne_not]
                  try simp
                · simp (maxSteps := 4000000) only [method_specs_simp, seval, encEv, bne_not]
                  refine clY.con (c_deniedIf _) (by simp only [method_specs_simp, encEv, bne_not]) ?_
                  simp (maxSteps := 4000000) only [method_specs_simp, seval, encEv, bne_not]
                  try simp
          · simp (maxSteps := 4000000) only [method_specs_simp, seval, encEv, bne_not]
            cases k7 : (e.kind == 4)
            · simp (maxSteps := 4000000) only [method_specs_simp, seval, encEv, bne_not]
              cases k8 : (e.kind == 5)
              · simp (maxSteps := 4000000) only [method_specs_simp, seval, encEv, bne_not]
                cases k9 : (e.kind == 6)
                · simp (maxSteps := 4000000) only [method_specs_simp, seval, encEv, bne_not]
                  cases k10 : (e.kind == 8)
                  · simp (maxSteps := 4000000) only [method_specs_simp, seval, encEv, bne_not]
                    try simp
                  · simp (maxSteps := 4000000) only [method_specs_simp, seval, encEv, bne_not]
                    refine ⟨h2, ?_⟩
                    rw [h1]
                    refine clY.con (c_at g e.key h.hx h.hs) (by simp only [method_specs_simp, encEv, bne_not]) ?_
                    simp (maxSteps := 4000000) only [method_specs_simp, seval, encEv, bne_not]
                    cases k11 : (atE g.events e.key).isSome
                    · simp (maxSteps := 4000000) only [method_specs_simp, seval, encEv, bne_not]
                      try simp
                    · simp (maxSteps := 4000000) only [method_specs_simp, seval, encEv, bne_not]
                      cases k12 : decide (levelE g s e.author < 50) <;> cases k13 : (((atE g.events e.key).getD zE).author == e.author)
                      all_goals
                        try simp (maxSteps := 4000000) only [k12, k13, method_specs_simp, seval]
                        refine clY.con (c_deniedIf _) (by simp only [method_specs_simp]) ?_
                        simp (maxSteps := 4000000) only [method_specs_simp, seval, encEv, bne_not]
                        try simp
                · simp (maxSteps := 4000000) only [method_specs_simp, seval, encEv, bne_not]
                  refine clY.con (c_deniedIf _) (by simp only [method_specs_simp, encEv, bne_not]) ?_
                  simp (maxSteps := 4000000) only [method_specs_simp, seval, encEv, bne_not]
                  try simp
              · simp (maxSteps := 4000000) only [method_specs_simp, seval, encEv, bne_not]
                refine clY.con (c_deniedIf _) (by simp only [method_specs_simp, encEv, bne_not]) ?_
                simp (maxSteps := 4000000) only [method_specs_simp, seval, encEv, bne_not]
                try simp
            · simp (maxSteps := 4000000) only [method_specs_simp, seval, encEv, bne_not]
              refine clY.con (c_deniedIf _) (by simp only [method_specs_simp, encEv, bne_not]) ?_
              simp (maxSteps := 4000000) only [method_specs_simp, seval, encEv, bne_not]
              try simp
theorem c_isState1 (g : Gr) (x : Ent) (hx : g.events.length * 96 ≤ 2 ^ 47) (hs : Gm.Srt g.events) : Con P 214 [.agg (encEnt x), .fptr (encGr g) 0] (.bool (!((atE g.events x.id).isSome && ((((atE g.events x.id).getD zE).kind == x.kind) && (((atE g.events x.id).getD zE).key == x.key))))) := by
  have h1 : List.take 3 (encGr g) = encGr g := rfl
  have h2 : 3 ≤ (encGr g).length := Nat.le_refl 3
  refine Con.of (n := 29) (rs := [.tmp 3]) (Is.fn Try.func214) rfl (Is.call Try.call214) Try.results214 Try.ntmps214 trivial ?_
  simp (maxSteps := 4000000) only [method_specs_simp, seval, encEv, encEnt, bne_not]
  refine ⟨h2, ?_⟩
  rw [h1]
  refine clY.con (c_at g x.id hx hs) (by simp only [method_specs_simp, encEv, encEnt, bne_not]) ?_
  simp (maxSteps := 4000000) only [method_specs_simp, seval, encEv, encEnt, bne_not]
  cases k1 : (atE g.events x.id).isSome
  · simp (maxSteps := 4000000) only [method_specs_simp, seval, encEv, encEnt, bne_not]
    try simp
  · simp (maxSteps := 4000000) only [method_specs_simp, seval, encEv, encEnt, bne_not]
    cases k2 : (((atE g.events x.id).getD zE).kind == x.kind)
    · simp (maxSteps := 4000000) only [method_specs_simp, seval, encEv, encEnt, bne_not]
      try simp
    · simp (maxSteps := 4000000) only [method_specs_simp, seval, encEv, encEnt, bne_not]
      try simp
theorem c_indexFN (xs : List Ent) (f : FuncId) (caps : List V) (p : Ent → Bool) (hc : Refs (fun _ => False) caps) (hf : ∀ x ∈ xs, Con P f ([.agg (encEnt x)] ++ caps) (.bool (p x))) (hx : xs.length < 2 ^ 62) : Con P 254 [.sl 3 (xs.map encEnt), .fn f [] caps] (.int .i64 (idxP p xs)) := by
  refine Con.of (n := 19) (rs := [.tmp 4]) (Is.fn Try.func254) rfl (Is.call Try.call254) Try.results254 Try.ntmps254 trivial ?_
  simp (maxSteps := 4000000) only [method_specs_simp, seval]
  refine SW.while (A := Nat) (fun k => ⟨pad 19 [.sl 3 (xs.map encEnt), .fn f [] caps, .junk, .junk, .int .i64 0, .junk, .sl 3 (xs.map encEnt), .int .i64 xs.length, .int .i64 k], [], []⟩) (fun k => xs.length - k)
    (fun k => k ≤ xs.length ∧ idxP p xs = if (xs.drop k).any p then (k : Int) + (((xs.drop k).findIdx p : Nat) : Int) else -1) 0 [] ⟨Nat.zero_le _, by simp [idxP]⟩ ?_ ?_
  · simp only [mvcgen_simp, method_specs_simp, seval, rens_pure _ hc]
    exact Refs.mono (fun _ h => h.elim) _ hc
  · rintro k ⟨hk, hr⟩
    rw [hr]
    refine CW.sound ?_
    simp (maxSteps := 4000000) only [method_specs_simp, seval]
    refine gB_split (fun h => ?_) (fun h => ?_)
    · simp only [decide_eq_true_eq, Int.ofNat_lt] at h
      have hxk : xs[k]? = some xs[k] := List.getElem?_eq_getElem h
      have hfk := hf _ (List.getElem_mem h)
      generalize xs[k] = x at hxk hfk
      rw [drop_cons hxk]
      simp (maxSteps := 4000000) only [List.getElem?_map, hxk, method_specs_simp, seval]
      refine ⟨by omega, by omega, by simp [encEnt], ?_⟩
      rw [show List.take 3 (encEnt x) = encEnt x from rfl]
      refine clY.conC hfk rfl ⟨of_eq_true (encEnt_refs1 _ x), hc⟩ ?_
      simp (maxSteps := 4000000) only [method_specs_simp, seval]
      refine gB_split (fun h1 => ?_) (fun h1 => ?_)
      · rw [idxP_hit h1]
      · rw [wrap_id (by omega) (by omega), idxP_miss h1]
        refine Again.mk (k + 1) [] ⟨h, rfl⟩ (Nat.sub_lt_sub_left h (Nat.lt_succ_self _)) ?_
        simp only [mvcgen_simp, method_specs_simp, seval, rens_pure _ hc]
        exact Refs.mono (fun _ h => h.elim) _ hc
    · simp only [decide_eq_false_iff_not, Bool.not_true, Int.ofNat_lt] at h
      rw [List.drop_eq_nil_of_le (by omega)]
      simp
theorem c_containsFN (xs : List Ent) (f : FuncId) (caps : List V) (p : Ent → Bool) (hc : Refs (fun _ => False) caps) (hf : ∀ x ∈ xs, Con P f ([.agg (encEnt x)] ++ caps) (.bool (p x))) (hx : xs.length < 2 ^ 62) : Con P 213 [.sl 3 (xs.map encEnt), .fn f [] caps] (.bool (xs.any p)) := by
  refine Con.of (n := 9) (rs := [.tmp 4]) (Is.fn Try.func213) rfl (Is.call Try.call213) Try.results213 Try.ntmps213 trivial ?_
  simp (maxSteps := 4000000) only [method_specs_simp, seval]
  refine clY.con (c_indexFN xs f caps p hc hf hx) ⟨of_eq_true (encEnt_refs _ xs), ⟨trivial, hc⟩, trivial⟩ ?_
  simp (maxSteps := 4000000) only [method_specs_simp, seval]
  exact idxP_ge p xs
theorem c_isStateOf (g : Gr) (s : List Ent) (hx : g.events.length * 96 ≤ 2 ^ 47) (hs : Gm.Srt g.events) (hl : s.length < 2 ^ 62) : Con P 115 [.agg (encGr g), .sl 3 (s.map encEnt)] (.bool (stateE g s)) := by
  have hall : s.all (entOf g) = !(s.any fun x => !entOf g x) := List.all_eq_not_any_not
  refine Con.of (n := 13) (rs := [.tmp 4]) (Is.fn Try.func115) rfl (Is.call Try.call115) Try.results115 Try.ntmps115 trivial ?_
  simp (maxSteps := 4000000) only [method_specs_simp, seval]
  refine clY.con (c118 s hl) (by simp only [method_specs_simp]) ?_
  simp (maxSteps := 4000000) only [method_specs_simp, seval]
  unfold stateE
  rw [hall]
  cases k1 : (okRow (entI 1) s && decide (s.length ≤ 400))
  · simp (maxSteps := 4000000) only [method_specs_simp, seval]
    simp [stateOk, k1]
  · simp (maxSteps := 4000000) only [method_specs_simp, seval]
    refine clY.conF (c_containsFN s _ [.fptr (encGr g) 0] (fun x => !entOf g x) ⟨encGr_ref1 _ g, trivial⟩ (fun x _ => c_isState1 g x hx hs) hl) (by simp only [method_specs_simp]) ⟨of_eq_true (encEnt_refs _ _), ⟨trivial, encGr_ref1 _ g, trivial⟩, trivial⟩ trivial ?_
    simp (maxSteps := 4000000) only [method_specs_simp, seval]
    simp only [stateOk, k1, Bool.true_and]
theorem stateE_ss {g : Gr} {s : List Ent} (h : stateE g s = true) : s.Pairwise ltE ∧ s.length ≤ 400 := by
  simp only [stateE, stateOk, Bool.and_eq_true, decide_eq_true_eq] at h
  exact ⟨okRow_sorted h.1.1, h.1.2⟩
theorem grRight_srt {g : Gr} (h : Gm.grRight g = true) : Gm.Srt g.events ∧ Gm.Srt g.parked := by
  simp only [Gm.grRight, Gm.rowR, Bool.and_eq_true] at h
  exact ⟨(Gm.rowFrom_srt h.2.1.2).1, (Gm.rowFrom_srt h.2.2.1.2).1⟩
def allowedG (g : Gr) (s : List Ent) (e : Ev) : Int := if (Gm.grRight g && (Gm.evRight e && stateE g s)) = true then allowedE g s e else 1
theorem c_Allowed (g : Gr) (s : List Ent) (e : Ev) (hg : GrOK g) (he : EvOK e) (hl : s.length * 24 ≤ 2 ^ 47) : Con P 34 [.agg (encGr g), .sl 3 (s.map encEnt), .agg (encEv e)] (.int .i64 (allowedG g s e)) := by
  have h1 : List.take 3 (encGr g) = encGr g := rfl
  have h2 : 3 ≤ (encGr g).length := Nat.le_refl 3
  have h3 : List.take 9 (encEv e) = encEv e := rfl
  have h4 : 9 ≤ (encEv e).length := Nat.le_refl 9
  unfold allowedG
  refine Con.of (n := 25) (rs := [.tmp 6]) (Is.fn Try.func34) rfl (Is.call Try.call34) Try.results34 Try.ntmps34 trivial ?_
  simp (maxSteps := 4000000) only [method_specs_simp, seval]
  refine ⟨h2, ?_⟩
  rw [h1]
  refine clY.con (c_GraphRight g hg) (by simp only [method_specs_simp]) ?_
  simp (maxSteps := 4000000) only [method_specs_simp, seval]
  cases k1 : Gm.grRight g
  · simp (maxSteps := 4000000) only [method_specs_simp, seval]
    try simp
  · have hs := (grRight_srt k1).1
    simp (maxSteps := 4000000) only [method_specs_simp, seval]
    refine ⟨h4, ?_⟩
    rw [h3]
    refine clY.con (c_EventRight e he) (by simp only [method_specs_simp]) ?_
    simp (maxSteps := 4000000) only [method_specs_simp, seval]
    cases k2 : Gm.evRight e
    · simp (maxSteps := 4000000) only [method_specs_simp, seval]
      try simp
    · simp (maxSteps := 4000000) only [method_specs_simp, seval]
      refine ⟨h2, ?_⟩
      rw [h1]
      refine clY.con (c_isStateOf g s hg.1.1 hs (by omega)) (by simp only [method_specs_simp]) ?_
      simp (maxSteps := 4000000) only [method_specs_simp, seval]
      cases k3 : stateE g s
      · simp (maxSteps := 4000000) only [method_specs_simp, seval]
        try simp
      · simp (maxSteps := 4000000) only [method_specs_simp, seval]
        refine ⟨h2, h4, ?_⟩
        rw [h1, h3]
        refine clY.con (c_allowed g s e ⟨hg.1.1, hs, hl, (stateE_ss k3).1⟩) (by simp only [method_specs_simp]) ?_
        simp (maxSteps := 4000000) only [method_specs_simp, seval]
        try simp
end
end Go.Proofs.Ytijkkaoeijigkaa
