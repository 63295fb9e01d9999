/- The abstract machine: its conditions as rewriting rules. -/
import Derived.Test.YtkdaijcdddomjaaPm18
set_option linter.unusedVariables false
set_option linter.unusedSimpArgs false
namespace Go.Pm
open Go.RowKit

theorem nr {α : Type} {a b : α} (h : a = b) : a = b := h
/-! ### what a computation comes to, and what is done with it: only the computation is looked into -/
def oB {α : Type} (x : Option α) (K : α → Prop) : Prop := match x with
  | some a => K a
  | none => False
@[congr] theorem oB_congr {α : Type} {x y : Option α} {K : α → Prop} (h : x = y) : oB x K = oB y K := by rw [h]
/-- A mark: what stands under it is computed first. -/
def nrm {α : Type} (x : α) : α := x
theorem nrm_some {α : Type} (a : α) : nrm (some a) = some a := nr rfl
theorem nrm_bool (b : Bool) : nrm (V.bool b) = V.bool b := nr rfl
def oP {α β : Type} (x : Option (α × β)) (K : α → β → Prop) : Prop := match x with
  | some (a, b) => K a b
  | none => False
@[congr] theorem oP_congr {α β : Type} {x y : Option (α × β)} {K : α → β → Prop} (h : x = y) : oP x K = oP y K := by rw [h]
theorem oP_some {α β : Type} (a : α) (b : β) (K : α → β → Prop) : oP (some (a, b)) K = K a b := nr rfl
def oT {α β γ : Type} (x : Option (α × β × γ)) (K : α → β → γ → Prop) : Prop := match x with
  | some (a, b, c) => K a b c
  | none => False
@[congr] theorem oT_congr {α β γ : Type} {x y : Option (α × β × γ)} {K : α → β → γ → Prop} (h : x = y) : oT x K = oT y K := by rw [h]
theorem oT_some {α β γ : Type} (a : α) (b : β) (c : γ) (K : α → β → γ → Prop) : oT (some (a, b, c)) K = K a b c := nr rfl
theorem oB_some {α : Type} (a : α) (K : α → Prop) : oB (some a) K = K a := nr rfl
theorem oB_none {α : Type} (K : α → Prop) : oB none K = False := nr rfl
/-! what follows is not looked into before the computation is done -/
class KO (α : Type) where
  k : α → Prop
class KP (α β : Type) where
  k : α → β → Prop
class KT (α β γ : Type) where
  k : α → β → γ → Prop
def hB {α : Type} (x : Option α) [kb : KO α] : Prop := oB x kb.k
@[congr] theorem hB_congr {α : Type} {x y : Option α} [kb : KO α] (h : x = y) : hB x = hB y := by rw [h]
theorem oB_h {α : Type} (x : Option α) (K : α → Prop) : oB x K = @hB _ x ⟨K⟩ := nr rfl
theorem hB_some {α : Type} (a : α) (K : α → Prop) : @hB _ (some a) ⟨K⟩ = K a := nr rfl
theorem hB_none {α : Type} (K : α → Prop) : @hB _ none ⟨K⟩ = False := nr rfl
def hP {α β : Type} (x : Option (α × β)) [kb : KP α β] : Prop := oP x kb.k
@[congr] theorem hP_congr {α β : Type} {x y : Option (α × β)} [kb : KP α β] (h : x = y) : hP x = hP y := by rw [h]
theorem oP_h {α β : Type} (x : Option (α × β)) (K : α → β → Prop) : oP x K = @hP _ _ x ⟨K⟩ := nr rfl
theorem hP_some {α β : Type} (a : α) (b : β) (K : α → β → Prop) : @hP _ _ (some (a, b)) ⟨K⟩ = K a b := nr rfl
def hT {α β γ : Type} (x : Option (α × β × γ)) [kb : KT α β γ] : Prop := oT x kb.k
@[congr] theorem hT_congr {α β γ : Type} {x y : Option (α × β × γ)} [kb : KT α β γ] (h : x = y) : hT x = hT y := by rw [h]
theorem oT_h {α β γ : Type} (x : Option (α × β × γ)) (K : α → β → γ → Prop) : oT x K = @hT _ _ _ x ⟨K⟩ := nr rfl
theorem hT_some {α β γ : Type} (a : α) (b : β) (c : γ) (K : α → β → γ → Prop) : @hT _ _ _ (some (a, b, c)) ⟨K⟩ = K a b c := nr rfl
def gB (x : V) (want : Bool) (A B : Prop) : Prop := match x with
  | .bool b => if b = want then A else B
  | .tup [] => B
  | _ => False
@[congr] theorem gB_congr {x y : V} {w : Bool} {A B : Prop} (h : x = y) : gB x w A B = gB y w A B := by rw [h]
theorem gB_u (w : Bool) (A B : Prop) : gB (.tup []) w A B = B := by simp [gB]
theorem nrm_u : nrm (V.tup []) = V.tup [] := nr rfl
theorem gB_tt (A B : Prop) : gB (.bool true) true A B = A := by simp [gB]
theorem gB_ft (A B : Prop) : gB (.bool false) true A B = B := by simp [gB]
theorem gB_tf (A B : Prop) : gB (.bool true) false A B = B := by simp [gB]
theorem gB_ff (A B : Prop) : gB (.bool false) false A B = A := by simp [gB]
theorem gB_split {b : Bool} {w : Bool} {A B : Prop} (h1 : b = w → A) (h2 : b = (!w) → B) : gB (.bool b) w A B := by
  unfold gB
  by_cases h : b = w
  · simp only [h, if_true]; exact h1 h
  · simp only [h, if_false]; exact h2 (by cases b <;> cases w <;> simp_all)
def gO (g : Option (Nat × Bool)) (ds : List (Option Tmp)) (t : List V) (A B : Prop) : Prop := match g with
  | none => A
  | some (j, want) => oB (ds.getD j none) fun d => gB (t.getD d .junk) want A B
@[congr] theorem gO_congr {g g' : Option (Nat × Bool)} {ds ds' : List (Option Tmp)} {t t' : List V} {A B : Prop} (h1 : g = g') (h2 : ds = ds') (h3 : t = t') : gO g ds t A B = gO g' ds' t' A B := by rw [h1, h2, h3]
theorem gO_none (ds : List (Option Tmp)) (t : List V) (A B : Prop) : gO none ds t A B = A := nr rfl
theorem gO_some (j : Nat) (w : Bool) (ds : List (Option Tmp)) (t : List V) (A B : Prop) : gO (some (j, w)) ds t A B = oB (ds.getD j none) fun d => gB (t.getD d .junk) w A B := nr rfl
theorem gv_eq (ds : List (Option Tmp)) (o : Oper) (t : List V) (A B : Prop) : gv ds o t A B = gO o.guard ds t A B := by
  unfold gv gO
  cases o.guard with
  | none => rfl
  | some g =>
    obtain ⟨j, w⟩ := g
    simp only
    cases ds.getD j none with
    | none => rfl
    | some d =>
      simp only [oB]
      cases t.getD d .junk <;> try rfl
      case bool b => cases b <;> cases w <;> simp [gB]
      case tup xs => cases xs <;> rfl

@[congr] theorem RS_congr {P : Program} {ds ds' : List (Option Tmp)} {os : List Oper} {st st' : St} {K : St → Prop} (h1 : ds = ds') (h2 : st = st') : RS P ds os st K = RS P ds' os st' K := by rw [h1, h2]
@[congr] theorem S1_congr {P : Program} {o : Oper} {st st' : St} {K : St → Prop} (h2 : st = st') : S1 P o st K = S1 P o st' K := by rw [h2]
@[congr] theorem RQ_congr {P : Program} {ds ds' : List (Option Tmp)} {k : Nat} {os : List Oper} {st st' : St} {K : St → Prop} (h1 : ds = ds') (h2 : st = st') : RQ P ds k os st K = RQ P ds' k os st' K := by rw [h1, h2]
theorem RS_nil {P : Program} {ds : List (Option Tmp)} {st : St} {K : St → Prop} : RS P ds [] st K = K st := nr rfl
theorem RS_cons {P : Program} {ds : List (Option Tmp)} {o : Oper} {os : List Oper} {st : St} {K : St → Prop} :
    RS P ds (o :: os) st K = gO o.guard ds st.t (S1 P o st (fun st' => RS P ds os st' K)) (RS P ds os ⟨putT st.t o.dst (.tup []), st.m, st.g⟩ K) := by
  rw [RS, gv_eq]
theorem set_known {t : List V} {d : Nat} {b : Bool} (h : t.getD d .junk = .bool b) : t.set d (.bool b) = t := by
  apply List.ext_getElem?
  intro i
  rw [List.getElem?_set]
  split
  · rename_i e
    subst e
    rw [List.getD_eq_getElem?_getD] at h
    cases hd : t[d]? with
    | none => rw [hd] at h; cases h
    | some x =>
      rw [hd] at h
      have : d < t.length := (List.getElem?_eq_some_iff.1 hd).1
      simp only [Option.getD_some] at h
      simp [this, h]
  · rfl
/-- What is known of the guard where an operation is not wanted. -/
def gsV (w : Bool) : V → V
  | .bool _ => .bool (!w)
  | x => x
def gset (t : List V) (d : Nat) (w : Bool) : List V := t.set d (gsV w (St.ev t (.tmp d)))
theorem gsV_b {w b : Bool} : gsV w (.bool b) = .bool (!w) := nr rfl
theorem gsV_u {w : Bool} : gsV w (.tup []) = .tup [] := nr rfl
theorem gset_eq {t : List V} {d : Nat} {w : Bool} : gset t d w = t.set d (gsV w (St.ev t (.tmp d))) := nr rfl
/-- Once a guard is known, so is what it looked at. -/
theorem gO_known {ds : List (Option Tmp)} {t : List V} (j : Nat) (w : Bool) (A B : List V → Prop) :
    gO (some (j, w)) ds t (A t) (B t) = oB (nrm (ds.getD j none)) fun d' => gB (St.ev t (.tmp d')) w (A (t.set d' (.bool w))) (B (gset t d' w)) := by
  rw [gO_some]
  unfold nrm
  cases ds.getD j none with
  | none => rfl
  | some d =>
    simp only [oB_some]
    show gB (t.getD d .junk) w (A t) (B t) = gB (t.getD d .junk) w _ _
    have hs : St.ev t (.tmp d) = t.getD d .junk := rfl
    unfold gset
    rw [hs]
    cases h : t.getD d .junk <;> try rfl
    case bool b =>
      unfold gB
      by_cases e : b = w
      · subst e
        simp only [if_true]
        rw [set_known h]
      · simp only [e, if_false]
        have e' : b = !w := by cases b <;> cases w <;> simp_all
        subst e'
        show B t = B (t.set d (.bool (!w)))
        rw [set_known h]
    case tup xs =>
      cases xs with
      | cons x xs => rfl
      | nil =>
        show B t = B (t.set d (.tup []))
        congr 1
        apply List.ext_getElem?
        intro i
        rw [List.getElem?_set]
        split
        · rename_i e
          subst e
          rw [List.getD_eq_getElem?_getD] at h
          cases hd : t[d]? with
          | none => rw [hd] at h; cases h
          | some x =>
            rw [hd] at h
            have : d < t.length := (List.getElem?_eq_some_iff.1 hd).1
            simp only [Option.getD_some] at h
            simp [this, h]
        · rfl
theorem RS_cons_n {P : Program} {ds : List (Option Tmp)} {os : List Oper} {t : List V} {m : List Ob} {gs : List V} {K : St → Prop} {d : Option Tmp} {op : Op} {ty : TypeId} {ps : String} {af : Array Edge} :
    RS P ds (⟨d, op, ty, ps, af, none⟩ :: os) ⟨t, m, gs⟩ K = S1 P ⟨d, op, ty, ps, af, none⟩ ⟨t, m, gs⟩ (fun st' => RS P ds os st' K) := by
  rw [RS_cons]; rfl
theorem RS_cons_g {P : Program} {ds : List (Option Tmp)} {os : List Oper} {t : List V} {m : List Ob} {gs : List V} {K : St → Prop} {d : Option Tmp} {op : Op} {ty : TypeId} {ps : String} {af : Array Edge} {j : Nat} {w : Bool} :
    RS P ds (⟨d, op, ty, ps, af, some (j, w)⟩ :: os) ⟨t, m, gs⟩ K = oB (nrm (ds.getD j none)) fun d' => gB (St.ev t (.tmp d')) w (S1 P ⟨d, op, ty, ps, af, some (j, w)⟩ ⟨t.set d' (.bool w), m, gs⟩ (fun st' => RS P ds os st' K)) (RS P ds os ⟨putT (gset t d' w) d (.tup []), m, gs⟩ K) := by
  rw [RS_cons]
  exact gO_known _ _ (fun t => S1 P _ ⟨t, m, gs⟩ _) (fun t => RS P ds os ⟨putT t d (.tup []), m, gs⟩ K)
/-- A quiet operation, in the middle of a drawn region. -/
def T1 (P : Program) (o : Oper) (st : St) (K : St → Prop) : Prop := Q1 P o.op (St.ev st.t) st.m st.m.length (fun r new => K ⟨putT st.t o.dst r, st.m ++ new, st.g⟩)
@[congr] theorem T1_congr {P : Program} {o : Oper} {st st' : St} {K : St → Prop} (h2 : st = st') : T1 P o st K = T1 P o st' K := by rw [h2]
theorem RQ_nil {P : Program} {ds : List (Option Tmp)} {k : Nat} {st : St} {K : St → Prop} : RQ P ds k [] st K = K st := by cases k <;> rfl
theorem RQ_zero {P : Program} {ds : List (Option Tmp)} {os : List Oper} {st : St} {K : St → Prop} : RQ P ds 0 os st K = RS P ds os st K := by cases os <;> rfl
theorem RQ_cons {P : Program} {ds : List (Option Tmp)} {k : Nat} {o : Oper} {os : List Oper} {st : St} {K : St → Prop} :
    RQ P ds (k + 1) (o :: os) st K = gO o.guard ds st.t (T1 P o st (fun st' => RQ P ds k os st' K)) (RQ P ds k os ⟨putT st.t o.dst (.tup []), st.m, st.g⟩ K) := by
  rw [RQ, gv_eq]; rfl

theorem RQ_cons_n {P : Program} {ds : List (Option Tmp)} {k : Nat} {os : List Oper} {t : List V} {m : List Ob} {gs : List V} {K : St → Prop} {d : Option Tmp} {op : Op} {ty : TypeId} {ps : String} {af : Array Edge} :
    RQ P ds (k + 1) (⟨d, op, ty, ps, af, none⟩ :: os) ⟨t, m, gs⟩ K = T1 P ⟨d, op, ty, ps, af, none⟩ ⟨t, m, gs⟩ (fun st' => RQ P ds k os st' K) := by
  rw [RQ_cons]; rfl
theorem RQ_cons_g {P : Program} {ds : List (Option Tmp)} {k : Nat} {os : List Oper} {t : List V} {m : List Ob} {gs : List V} {K : St → Prop} {d : Option Tmp} {op : Op} {ty : TypeId} {ps : String} {af : Array Edge} {j : Nat} {w : Bool} :
    RQ P ds (k + 1) (⟨d, op, ty, ps, af, some (j, w)⟩ :: os) ⟨t, m, gs⟩ K = oB (nrm (ds.getD j none)) fun d' => gB (St.ev t (.tmp d')) w (T1 P ⟨d, op, ty, ps, af, some (j, w)⟩ ⟨t.set d' (.bool w), m, gs⟩ (fun st' => RQ P ds k os st' K)) (RQ P ds k os ⟨putT (gset t d' w) d (.tup []), m, gs⟩ K) := by
  rw [RQ_cons]
  exact gO_known _ _ (fun t => T1 P _ ⟨t, m, gs⟩ _) (fun t => RQ P ds k os ⟨putT t d (.tup []), m, gs⟩ K)

/-! ### objects -/
def boxAt (m : List Ob) (q : Nat) : Option (List V) := match m[q]? with
  | some (.box _ cs) => some cs
  | _ => none
def boxLv (m : List Ob) (q : Nat) : Option (List V) := match m[q]? with
  | some (.box true cs) => some cs
  | _ => none
def arrAt (m : List Ob) (q : Nat) : Option (Nat × List (List V)) := match m[q]? with
  | some (.arr _ sz xs) => some (sz, xs)
  | _ => none
def arrLv (m : List Ob) (q : Nat) : Option (Nat × List (List V)) := match m[q]? with
  | some (.arr true sz xs) => some (sz, xs)
  | _ => none
section
variable {m : List Ob} {q : Nat} {lv : Bool} {cs : List V} {ob : Ob} {sz : Nat} {xs : List (List V)}
theorem boxAt_z : boxAt (.box lv cs :: m) 0 = some cs := nr rfl
theorem boxAt_s : boxAt (ob :: m) (q + 1) = boxAt m q := by simp [boxAt]
theorem boxLv_z : boxLv (.box true cs :: m) 0 = some cs := nr rfl
theorem boxLv_s : boxLv (ob :: m) (q + 1) = boxLv m q := by simp [boxLv]
theorem arrAt_z : arrAt (.arr lv sz xs :: m) 0 = some (sz, xs) := nr rfl
theorem arrAt_s : arrAt (ob :: m) (q + 1) = arrAt m q := by simp [arrAt]
theorem arrLv_z : arrLv (.arr true sz xs :: m) 0 = some (sz, xs) := nr rfl
theorem arrLv_s : arrLv (ob :: m) (q + 1) = arrLv m q := by simp [arrLv]
theorem oneV_ar {o off len : Nat} : oneV m (.ar o off len) = (arrAt m o).isSome := by
  simp only [oneV, arrAt]
  cases m[o]? with
  | none => rfl
  | some ob => cases ob <;> rfl
theorem oneV_ptr {o off : Nat} : oneV m (.ptr o off) = (boxAt m o).isSome := by
  simp only [oneV, boxAt]
  cases m[o]? with
  | none => rfl
  | some ob => cases ob <;> rfl
theorem oneV_eptr {o i off : Nat} : oneV m (.eptr o i off) = (arrAt m o).isSome := by
  simp only [oneV, arrAt]
  cases m[o]? with
  | none => rfl
  | some ob => cases ob <;> rfl
theorem elemsV_arc {o off len cap : Nat} : elemsV m (.arc o off len cap) = (arrAt m o).map fun p => (p.2.drop off).take len := by
  simp only [elemsV, arrAt]
  cases m[o]? with
  | none => rfl
  | some ob => cases ob <;> rfl
theorem oneV_arc {o off len cap : Nat} : oneV m (.arc o off len cap) = (arrAt m o).isSome := by
  simp only [oneV, arrAt]
  cases m[o]? with
  | none => rfl
  | some ob => cases ob <;> rfl
theorem elemsV_ar {o off len : Nat} : elemsV m (.ar o off len) = (arrAt m o).map fun p => (p.2.drop off).take len := by
  simp only [elemsV, arrAt]
  cases m[o]? with
  | none => rfl
  | some ob => cases ob <;> rfl
end

/-! ### reads and writes -/
@[congr] theorem rdVC_congr {ag ag' : Bool} {sz sz' : Nat} {cs cs' : List V} {K : V → Prop} (h1 : ag = ag') (h2 : sz = sz') (h3 : cs = cs') : rdVC ag sz cs K = rdVC ag' sz' cs' K := by rw [h1, h2, h3]
theorem rdVC_t {sz : Nat} {cs : List V} {K : V → Prop} : rdVC true sz cs K = (sz ≤ cs.length ∧ K (.agg (cs.take sz))) := by simp [rdVC]
theorem rdVC_f {sz : Nat} {cs : List V} {K : V → Prop} : rdVC false sz cs K = oB (nrm cs[0]?) K := by
  cases cs <;> simp [rdVC, oB, nrm]
def ldX (m : List Ob) (x : V) (k : List V → Prop) : Prop := match x with
  | .ptr o off => oB (nrm (boxAt m o)) fun cs => k (cs.drop off)
  | .eptr o i off => oB (nrm (arrAt m o)) fun p => oB (nrm p.2[i]?) fun c => k (c.drop off)
  | .sptr _ xs i off => oB (nrm xs[i]?) fun c => k (c.drop off)
  | .fptr cs off => k (cs.drop off)
  | _ => False
@[congr] theorem ldX_congr {m m' : List Ob} {x x' : V} {k : List V → Prop} (h1 : m = m') (h2 : x = x') : ldX m x k = ldX m' x' k := by rw [h1, h2]
theorem oB_get' {α : Type} {xs : List α} {i : Nat} {d : α} {k : α → Prop} : oB (nrm xs[i]?) k = (i < xs.length ∧ k (xs.getD i d)) := by
  unfold nrm
  by_cases h : i < xs.length
  · simp [oB, h, List.getD_eq_getElem?_getD]
  · simp [oB, h]
theorem oB_get {α : Type} {xs : List α} {i : Nat} {d : α} {k : α → Prop} : oB xs[i]? k = (i < xs.length ∧ k (xs.getD i d)) := by
  by_cases h : i < xs.length
  · simp [oB, h, List.getD_eq_getElem?_getD]
  · simp [oB, h]
theorem ldVC_eq {P : Program} {t : TypeId} {m : List Ob} {x : V} {K : V → Prop} : ldVC P t m x K = oP (nrm (lay P t)) fun sz ag => ldX m x fun cs => rdVC ag sz cs K := by
  unfold ldVC
  cases lay P t with
  | none => rfl
  | some p =>
    obtain ⟨sz, ag⟩ := p
    simp only [nrm, oP_some]
    cases x <;> simp only [ldX]
    · rw [oB_get' (d := [])]
    · simp only [boxAt]
      rename_i o off
      cases m[o]? with
      | none => rfl
      | some ob => cases ob <;> rfl
    · simp only [arrAt]
      rename_i o i off
      cases m[o]? with
      | none => rfl
      | some ob =>
        cases ob <;> simp only [nrm, oB_some, oB_none]
        rw [oB_get (d := [])]
@[congr] theorem ldVC_congr {P : Program} {t : TypeId} {m m' : List Ob} {x x' : V} {K : V → Prop} (h1 : m = m') (h2 : x = x') : ldVC P t m x K = ldVC P t m' x' K := by rw [h1, h2]
theorem ldX_ptr {m : List Ob} {o off : Nat} {k : List V → Prop} : ldX m (.ptr o off) k = oB (nrm (boxAt m o)) fun cs => k (cs.drop off) := nr rfl
theorem ldX_eptr {m : List Ob} {o i off : Nat} {k : List V → Prop} : ldX m (.eptr o i off) k = oB (nrm (arrAt m o)) fun p => oB (nrm p.2[i]?) fun c => k (c.drop off) := nr rfl
theorem ldX_sptr {m : List Ob} {sz : Nat} {xs : List (List V)} {i off : Nat} {k : List V → Prop} : ldX m (.sptr sz xs i off) k = oB (nrm xs[i]?) fun c => k (c.drop off) := nr rfl
theorem ldX_fptr {m : List Ob} {cs : List V} {off : Nat} {k : List V → Prop} : ldX m (.fptr cs off) k = k (cs.drop off) := nr rfl

def stX (m : List Ob) (x : V) (sz : Nat) (ys : List V) (K : List Ob → Prop) : Prop := match x with
  | .ptr q off => oB (nrm (boxLv m q)) fun cs => ys.all (oneV m) = true ∧ ys.length = sz ∧ off + ys.length ≤ cs.length ∧ K (m.set q (.box true (over cs off ys)))
  | .eptr q i off => oB (nrm (arrLv m q)) fun p => i < p.2.length ∧ ys.all (oneV m) = true ∧ ys.length = sz ∧ off + ys.length ≤ p.1 ∧ K (m.set q (.arr true p.1 (p.2.set i (over (p.2.getD i []) off ys))))
  | _ => False
@[congr] theorem stX_congr {m m' : List Ob} {x x' : V} {sz sz' : Nat} {ys ys' : List V} {K : List Ob → Prop} (h1 : m = m') (h2 : x = x') (h3 : sz = sz') (h4 : ys = ys') : stX m x sz ys K = stX m' x' sz' ys' K := by rw [h1, h2, h3, h4]
theorem stX_ptr {m : List Ob} {q off sz : Nat} {ys : List V} {K : List Ob → Prop} : stX m (.ptr q off) sz ys K = oB (nrm (boxLv m q)) fun cs => ys.all (oneV m) = true ∧ ys.length = sz ∧ off + ys.length ≤ cs.length ∧ K (m.set q (.box true (over cs off ys))) := nr rfl
theorem stX_eptr {m : List Ob} {q i off sz : Nat} {ys : List V} {K : List Ob → Prop} : stX m (.eptr q i off) sz ys K = oB (nrm (arrLv m q)) fun p => i < p.2.length ∧ ys.all (oneV m) = true ∧ ys.length = sz ∧ off + ys.length ≤ p.1 ∧ K (m.set q (.arr true p.1 (p.2.set i (over (p.2.getD i []) off ys)))) := nr rfl
@[congr] theorem storeVC_congr {P : Program} {t : TypeId} {m m' : List Ob} {x x' y y' : V} {K : List Ob → Prop} (h1 : m = m') (h2 : x = x') (h3 : y = y') : storeVC P t m x y K = storeVC P t m' x' y' K := by rw [h1, h2, h3]
theorem over_z {cs ys : List V} : over cs 0 ys = ys ++ cs.drop ys.length := by simp [over]
theorem over_s {c : V} {cs ys : List V} {off : Nat} : over (c :: cs) (off + 1) ys = c :: over cs off ys := by
  simp [over, Nat.succ_add]

/-! ### each operation -/
section
variable {P : Program} {st : St} {t : List V} {m : List Ob} {gs : List V} {K : St → Prop} {d : Option Tmp} {ty : TypeId} {ps : String} {af : Array Edge} {g : Option (Nat × Bool)}
theorem S1_move {x : Operand} : S1 P ⟨d, .move x, ty, ps, af, g⟩ ⟨t, m, gs⟩ K = K ⟨putT t d (St.ev t x), m, gs⟩ := by simp [S1, Q1]
theorem S1_assign {x : Operand} : S1 P ⟨d, .assign x, ty, ps, af, g⟩ ⟨t, m, gs⟩ K = K ⟨putT t d (St.ev t x), m, gs⟩ := by simp [S1, Q1]
def pkX (c a b : V) (K : V → Prop) : Prop := match c with
  | .bool t => K (if t then a else b)
  | _ => False
@[congr] theorem pkX_congr {c c' a a' b b' : V} {K : V → Prop} (h1 : c = c') (h2 : a = a') (h3 : b = b') : pkX c a b K = pkX c' a' b' K := by rw [h1, h2, h3]
theorem pkX_t {a b : V} {K : V → Prop} : pkX (.bool true) a b K = K a := nr rfl
theorem pkX_f {a b : V} {K : V → Prop} : pkX (.bool false) a b K = K b := nr rfl
theorem pkX_b {x a b : Bool} {K : V → Prop} : pkX (.bool x) (.bool a) (.bool b) K = K (.bool (if x then a else b)) := by cases x <;> rfl
theorem S1_pick {x y z : Operand} : S1 P ⟨d, .pick x y z, ty, ps, af, g⟩ ⟨t, m, gs⟩ K = pkX (St.ev t x) (St.ev t y) (St.ev t z) fun r => K ⟨putT t d r, m, gs⟩ := by
  simp only [S1, Q1, pkX]
  cases St.ev t x <;> simp
theorem S1_alloc {e : TypeId} : S1 P ⟨d, .alloc e, ty, ps, af, g⟩ ⟨t, m, gs⟩ K = oB (nrm (zer P e)) fun cs => K ⟨putT t d (.ptr m.length 0), m ++ [.box true cs], gs⟩ := by
  simp only [S1, Q1]
  cases zer P e <;> rfl
def bxX (m : List Ob) (x : V) (K : List V → Prop) : Prop := oB (nrm (cellsV m x)) K
@[congr] theorem bxX_congr {m m' : List Ob} {x x' : V} {K : List V → Prop} (h1 : m = m') (h2 : x = x') : bxX m x K = bxX m' x' K := by rw [h1, h2]
theorem bxX_eq {m : List Ob} {x : V} {K : List V → Prop} : bxX m x K = oB (nrm (cellsV m x)) K := nr rfl
theorem cellsV_one {m : List Ob} {x : V} (h : ∀ cs, x ≠ .agg cs) : cellsV m x = if oneV m x then some [x] else none := by
  cases x <;> first | rfl | exact absurd rfl (h _)
theorem cellsV_agg {m : List Ob} {cs : List V} : cellsV m (.agg cs) = some cs := nr rfl
theorem bxX_int {m : List Ob} {k : IntKind} {n : Int} {K : List V → Prop} : bxX m (.int k n) K = K [.int k n] := nr rfl
theorem bxX_bool {m : List Ob} {b : Bool} {K : List V → Prop} : bxX m (.bool b) K = K [.bool b] := nr rfl
theorem bxX_str {m : List Ob} {b : ByteArray} {K : List V → Prop} : bxX m (.str b) K = K [.str b] := nr rfl
theorem bxX_nil {m : List Ob} {K : List V → Prop} : bxX m .nil K = K [.nil] := nr rfl
theorem bxX_sl {m : List Ob} {sz : Nat} {xs : List (List V)} {K : List V → Prop} : bxX m (.sl sz xs) K = K [.sl sz xs] := nr rfl
theorem bxX_fptr {m : List Ob} {cs : List V} {off : Nat} {K : List V → Prop} : bxX m (.fptr cs off) K = K [.fptr cs off] := nr rfl
theorem bxX_fn {m : List Ob} {f : FuncId} {fs cs : List V} {K : List V → Prop} : bxX m (.fn f fs cs) K = K [.fn f fs cs] := nr rfl
theorem bxX_agg {m : List Ob} {cs : List V} {K : List V → Prop} : bxX m (.agg cs) K = K cs := nr rfl
theorem bxX_ar {m : List Ob} {q off len : Nat} {K : List V → Prop} : bxX m (.ar q off len) K = ((arrAt m q).isSome = true ∧ K [.ar q off len]) := by
  simp only [bxX, cellsV, oneV_ar, nrm]
  cases arrAt m q <;> simp [oB]
theorem bxX_ptr {m : List Ob} {q off : Nat} {K : List V → Prop} : bxX m (.ptr q off) K = ((boxAt m q).isSome = true ∧ K [.ptr q off]) := by
  simp only [bxX, cellsV, oneV_ptr, nrm]
  cases boxAt m q <;> simp [oB]
theorem S1_box {e : TypeId} {x : Operand} : S1 P ⟨d, .box e x, ty, ps, af, g⟩ ⟨t, m, gs⟩ K = bxX m (St.ev t x) fun cs => K ⟨putT t d (.ptr m.length 0), m ++ [.box true cs], gs⟩ := by
  simp only [S1, Q1, boxVC, bxX]
  cases h : St.ev t x <;> simp only [cellsV, oB, nrm] <;> first | rfl | (cases oneV m _ <;> simp)
theorem storeVC_eq {t : TypeId} {m : List Ob} {x y : V} {K : List Ob → Prop} : storeVC P t m x y K = oP (nrm (lay P t)) fun sz _ => bxX m y fun ys => stX m x sz ys K := by
  unfold storeVC
  cases lay P t with
  | none => rfl
  | some p =>
    obtain ⟨sz, ag⟩ := p
    simp only [nrm, oP_some, bxX]
    cases cellsV m y with
    | none => rfl
    | some ys =>
      simp only [nrm, oB_some]
      cases x <;> simp only [stX]
      · simp only [boxLv]
        rename_i q off
        cases m[q]? with
        | none => rfl
        | some ob => cases ob <;> first | rfl | (rename_i lv cs; cases lv <;> rfl)
      · simp only [arrLv]
        rename_i q i off
        cases m[q]? with
        | none => rfl
        | some ob => cases ob <;> first | rfl | (rename_i lv sz' xs; cases lv <;> rfl)
theorem S1_load {e : TypeId} {x : Operand} : S1 P ⟨d, .load e x, ty, ps, af, g⟩ ⟨t, m, gs⟩ K = ldVC P e m (St.ev t x) fun r => K ⟨putT t d r, m, gs⟩ := by simp [S1, Q1]
theorem S1_store {e : TypeId} {x y : Operand} : S1 P ⟨d, .store e x y, ty, ps, af, g⟩ ⟨t, m, gs⟩ K = storeVC P e m (St.ev t x) (St.ev t y) fun m' => K ⟨putT t d .junk, m', gs⟩ := by simp [S1]
def nlX (m : List Ob) (x : V) (K : Prop) : Prop := x.notNil = true ∧ oneV m x = true ∧ K
theorem S1_nilCheck {x : Operand} : S1 P ⟨d, .nilCheck x, ty, ps, af, g⟩ ⟨t, m, gs⟩ K = ((St.ev t x).notNil = true ∧ oneV m (St.ev t x) = true ∧ K ⟨putT t d (St.ev t x), m, gs⟩) := by simp [S1, Q1]
@[congr] theorem bnX_congr {P : Program} {q : Bool} {op : BinOp} {e : TypeId} {m m' : List Ob} {x x' y y' : V} {K : V → Prop} (h0 : m = m') (h1 : x = x') (h2 : y = y') : bnX P q op e m x y K = bnX P q op e m' x' y' K := by rw [h0, h1, h2]
section
variable {q : Bool} {m : List Ob} {e : TypeId} {k : IntKind} {a b : Int} {K : V → Prop}
theorem bnX_add : bnX P q .add e m (.int k a) (.int k b) K = K (.int k (k.wrap (a + b))) := by simp [bnX, binVC, binV, intV]
theorem bnX_sub : bnX P q .sub e m (.int k a) (.int k b) K = K (.int k (k.wrap (a - b))) := by simp [bnX, binVC, binV, intV]
theorem bnX_mul : bnX P q .mul e m (.int k a) (.int k b) K = K (.int k (k.wrap (a * b))) := by simp [bnX, binVC, binV, intV]
theorem bnX_and : bnX P q .and e m (.int k a) (.int k b) K = K (.int k (k.wrap (BitVec.ofInt k.bits a &&& BitVec.ofInt k.bits b).toNat)) := by simp [bnX, binVC, binV, intV]
theorem bnX_or : bnX P q .or e m (.int k a) (.int k b) K = K (.int k (k.wrap (BitVec.ofInt k.bits a ||| BitVec.ofInt k.bits b).toNat)) := by simp [bnX, binVC, binV, intV]
theorem bnX_xor : bnX P q .xor e m (.int k a) (.int k b) K = K (.int k (k.wrap (BitVec.ofInt k.bits a ^^^ BitVec.ofInt k.bits b).toNat)) := by simp [bnX, binVC, binV, intV]
theorem bnX_eql : bnX P q .eql e m (.int k a) (.int k b) K = K (.bool (a == b)) := by simp [bnX, binVC, binV, intV]
theorem bnX_neq : bnX P q .neq e m (.int k a) (.int k b) K = K (.bool (a != b)) := by simp [bnX, binVC, binV, intV]
theorem bnX_lss : bnX P q .lss e m (.int k a) (.int k b) K = K (.bool (decide (a < b))) := by simp [bnX, binVC, binV, intV]
theorem bnX_leq : bnX P q .leq e m (.int k a) (.int k b) K = K (.bool (decide (a ≤ b))) := by simp [bnX, binVC, binV, intV]
theorem bnX_gtr : bnX P q .gtr e m (.int k a) (.int k b) K = K (.bool (decide (a > b))) := by simp [bnX, binVC, binV, intV]
theorem bnX_geq : bnX P q .geq e m (.int k a) (.int k b) K = K (.bool (decide (a ≥ b))) := by simp [bnX, binVC, binV, intV]
theorem bnX_quo {K : V → Prop} : bnX P q .quo e m (.int k a) (.int k b) K = (b ≠ 0 ∧ K (.int k (k.wrap (a.tdiv b)))) := by
  simp only [bnX, binVC, binV, intV, if_true]
  by_cases h : b = 0 <;> simp [h, boolV]
theorem bnX_rem : bnX P q .rem e m (.int k a) (.int k b) K = (b ≠ 0 ∧ K (.int k (a.tmod b))) := by
  simp only [bnX, binVC, binV, intV, if_true]
  by_cases h : b = 0 <;> simp [h, boolV]
theorem bnX_shl {k' : IntKind} : bnX P q .shl e m (.int k a) (.int k' b) K = (0 ≤ b ∧ K (.int k (k.wrap (a * 2 ^ min b.toNat k.bits)))) := by
  simp only [bnX, binVC, binV]
  by_cases h : b < 0
  · simp [h, boolV]; intro h'; omega
  · simp [h]; omega
theorem bnX_shr {k' : IntKind} : bnX P q .shr e m (.int k a) (.int k' b) K = (0 ≤ b ∧ K (.int k (a.fdiv (2 ^ min b.toNat k.bits)))) := by
  simp only [bnX, binVC, binV]
  by_cases h : b < 0
  · simp [h, boolV]; intro h'; omega
  · simp [h]; omega
theorem bnX_sadd {a b : ByteArray} : bnX P q .add e m (.str a) (.str b) K = (a.size + b.size ≤ 2 ^ 62 ∧ K (.str (a ++ b))) := by
  simp only [bnX, binVC, binV, strV]
  by_cases h : a.size + b.size ≤ 2 ^ 62
  · rw [if_pos h]; simp [h]
  · rw [if_neg h]; simp [h, boolV]
theorem bnX_seql {a b : ByteArray} : bnX P q .eql e m (.str a) (.str b) K = K (.bool (a.toList == b.toList)) := by simp [bnX, binVC, binV, strV]
theorem bnX_sneq {a b : ByteArray} : bnX P q .neq e m (.str a) (.str b) K = K (.bool (!(a.toList == b.toList))) := by simp [bnX, binVC, binV, strV]
theorem bnX_beql {a b : Bool} : bnX P q .eql e m (.bool a) (.bool b) K = (isBoolT P e = true ∧ K (.bool (a == b))) := by simp [bnX, binVC, binV, boolV]
theorem bnX_bneq {a b : Bool} : bnX P q .neq e m (.bool a) (.bool b) K = (isBoolT P e = true ∧ K (.bool (a != b))) := by simp [bnX, binVC, binV, boolV]
end
/-- Which of nil and not nil a slice of no elements is, is not told. -/
class KN where
  k : V → Prop
def nilY (op : BinOp) (xs : List (List V)) [kn : KN] : Prop := ∀ b, (b = true → xs = []) → nilop op b kn.k
@[congr] theorem nilY_congr {op : BinOp} {xs xs' : List (List V)} [kn : KN] (h : xs = xs') : nilY op xs = nilY op xs' := by rw [h]
theorem nilY.eql {xs : List (List V)} {K : V → Prop} (h1 : xs = [] → K (.bool true)) (h2 : K (.bool false)) : @nilY .eql xs ⟨K⟩ := by
  intro b hb
  cases b with
  | false => exact h2
  | true => exact h1 (hb rfl)
theorem bnX_nilsl {op : BinOp} {e : TypeId} {m : List Ob} {sz : Nat} {xs : List (List V)} {K : V → Prop} : bnX P false op e m (.sl sz xs) .nil K = oB (nrm (elt P e)) fun _ => @nilY op xs ⟨K⟩ := by
  simp only [bnX, nilS, nrm]
  cases elt P e with
  | none => rfl
  | some u =>
    simp only [oB_some, elemsV, nilY]
    apply propext
    constructor
    · rintro ⟨ys, h1, h2⟩
      simp only [Option.some.injEq] at h1; subst h1
      exact h2
    · intro h; exact ⟨xs, rfl, h⟩
theorem bnX_nilnil {op : BinOp} {e : TypeId} {m : List Ob} {K : V → Prop} : bnX P false op e m .nil .nil K = oB (nrm (elt P e)) fun _ => nilop op true K := by
  simp only [bnX, nilS, nrm]
  cases elt P e <;> rfl
theorem nilop_eql {b : Bool} {K : V → Prop} : nilop .eql b K = K (.bool b) := nr rfl
theorem nilop_neq {b : Bool} {K : V → Prop} : nilop .neq b K = K (.bool (!b)) := nr rfl
theorem S1_binOp {op : BinOp} {e u : TypeId} {x y : Operand} : S1 P ⟨d, .binOp op e x y u, ty, ps, af, g⟩ ⟨t, m, gs⟩ K = bnX P false op e m (St.ev t x) (St.ev t y) fun r => K ⟨putT t d r, m, gs⟩ := by simp [S1]
theorem T1_binOp' {op : BinOp} {e u : TypeId} {x y : Operand} : T1 P ⟨d, .binOp op e x y u, ty, ps, af, g⟩ ⟨t, m, gs⟩ K = bnX P true op e m (St.ev t x) (St.ev t y) fun r => K ⟨putT t d r, m, gs⟩ := by
  simp only [T1, Q1, bnX, List.append_nil]
  cases St.ev t y <;> rfl
@[congr] theorem unVC_congr {op : UnOp} {x x' : V} {K : V → Prop} (h1 : x = x') : unVC op x K = unVC op x' K := by rw [h1]
theorem unVC_not {b : Bool} {K : V → Prop} : unVC .not (.bool b) K = K (.bool (!b)) := nr rfl
theorem unVC_neg {k : IntKind} {n : Int} {K : V → Prop} : unVC .neg (.int k n) K = K (.int k (k.wrap (0 - n))) := nr rfl
theorem unVC_xor {k : IntKind} {n : Int} {K : V → Prop} : unVC .xor (.int k n) K = K (.int k (k.wrap (BitVec.ofInt k.bits (if k.signed then -1 else k.max) ^^^ BitVec.ofInt k.bits n).toNat)) := nr rfl
theorem S1_unOp {op : UnOp} {e : TypeId} {x : Operand} : S1 P ⟨d, .unOp op e x, ty, ps, af, g⟩ ⟨t, m, gs⟩ K = unVC op (St.ev t x) fun r => K ⟨putT t d r, m, gs⟩ := by simp [S1, Q1]
@[congr] theorem convVC_congr {s e : TypeId} {m m' : List Ob} {x x' : V} {K : V → Prop} (h0 : m = m') (h1 : x = x') : convVC P s e m x K = convVC P s e m' x' K := by rw [h0, h1]
theorem convVC_int {s e : TypeId} {k : IntKind} {n : Int} {K : V → Prop} : convVC P s e m (.int k n) K = oB (nrm (intT P e)) fun k => hasT P s = true ∧ K (.int k (k.wrap n)) := by
  simp only [convVC]
  cases intT P e <;> rfl
def bytY (xs : List (List V)) [ko : KO V] : Prop := ∃ ns : List Int, xs = ns.map (fun n => [.int .u8 n]) ∧ ko.k (.str (strOf ns))
@[congr] theorem bytY_congr {xs xs' : List (List V)} [ko : KO V] (h : xs = xs') : bytY xs = bytY xs' := by rw [h]
theorem bytY.mk {xs : List (List V)} {K : V → Prop} (ns : List Int) (h : xs = ns.map (fun n => [.int .u8 n])) (k : K (.str (strOf ns))) : @bytY xs ⟨K⟩ := ⟨ns, h, k⟩
theorem convVC_sl {s e : TypeId} {sz : Nat} {xs : List (List V)} {K : V → Prop} : convVC P s e m (.sl sz xs) K = oB (nrm (elt P s)) fun u => oB (nrm (intT P u)) fun k => k = .u8 ∧ isStrT P e = true ∧ @bytY xs ⟨K⟩ := by
  simp only [convVC, nrm, bytY, elemsV]
  cases elt P s with
  | none => simp [oB]
  | some u =>
    simp only [oB_some, Option.some.injEq, exists_and_left, exists_eq_left']
    cases intT P u with
    | none => simp [oB]
    | some k => simp only [oB_some, Option.some.injEq]
theorem convVC_ar {s e : TypeId} {q off len : Nat} {K : V → Prop} : convVC P s e m (.ar q off len) K = oB (nrm (elt P s)) fun u => oB (nrm (intT P u)) fun k => oB (nrm (arrAt m q)) fun a => k = .u8 ∧ isStrT P e = true ∧ @bytY ((a.2.drop off).take len) ⟨K⟩ := by
  simp only [convVC, nrm, bytY, elemsV_ar]
  cases elt P s with
  | none => simp [oB]
  | some u =>
    simp only [oB_some, Option.some.injEq, exists_and_left, exists_eq_left']
    cases intT P u with
    | none => simp [oB]
    | some k =>
      simp only [oB_some, Option.some.injEq]
      cases arrAt m q with
      | none => simp [oB]
      | some a => simp only [oB_some, Option.map_some, Option.some.injEq]
theorem S1_convert {s e : TypeId} {x : Operand} : S1 P ⟨d, .convert s e x, ty, ps, af, g⟩ ⟨t, m, gs⟩ K = convVC P s e m (St.ev t x) fun r => K ⟨putT t d r, m, gs⟩ := by simp [S1, Q1]
theorem S1_makeFunc {f : FuncId} {fs cs : Array Operand} : S1 P ⟨d, .makeFunc (.func f) fs cs, ty, ps, af, g⟩ ⟨t, m, gs⟩ K = K ⟨putT t d (.fn f (fs.toList.map (St.ev t)) (cs.toList.map (St.ev t))), m, gs⟩ := by simp [S1, Q1, mkfVC]
theorem S1_makeMap {e : TypeId} : S1 P ⟨d, .makeMap e none, ty, ps, af, g⟩ ⟨t, m, gs⟩ K = K ⟨putT t d (.map m.length), m ++ [.mp true [] []], gs⟩ := by simp [S1, Q1]
@[congr] theorem mksVC_congr {e : TypeId} {b b' : Nat} {x x' y y' : V} {K : V → List Ob → Prop} (h0 : b = b') (h1 : x = x') (h2 : y = y') : mksVC P e b x y K = mksVC P e b' x' y' K := by rw [h0, h1, h2]
theorem mksVC_eq {e : TypeId} {b : Nat} {k k' : IntKind} {n n' : Int} {K : V → List Ob → Prop} : mksVC P e b (.int k n) (.int k' n') K =
    oB (nrm (elt P e)) fun u => oB (nrm (lay P u)) fun p => oB (nrm (zer P u)) fun zs => (n' = n ∧ 0 < p.1 ∧ zs.length = p.1 ∧ 0 ≤ n ∧ n * P.bytesOf u ≤ 2 ^ 47 ∧ n ≤ 2 ^ 47 ∧ K (.ar b 0 n.toNat) [.arr true p.1 (List.replicate n.toNat zs)]) := by
  unfold mksVC
  cases elt P e with
  | none => rfl
  | some u =>
    simp only [nrm, oB_some]
    cases lay P u with
    | none => rfl
    | some p => cases zer P u <;> rfl
theorem S1_makeSlice {e : TypeId} {x y : Operand} : S1 P ⟨d, .makeSlice e x y, ty, ps, af, g⟩ ⟨t, m, gs⟩ K = mksVC P e m.length (St.ev t x) (St.ev t y) fun r new => K ⟨putT t d r, m ++ new, gs⟩ := by simp [S1, Q1]
@[congr] theorem faddrVC_congr {s f : Nat} {m m' : List Ob} {x x' : V} {K : V → Prop} (h0 : m = m') (h1 : x = x') : faddrVC P s f m x K = faddrVC P s f m' x' K := by rw [h0, h1]
theorem faddrVC_eq {s f : Nat} {x : V} {K : V → Prop} : faddrVC P s f m x K = oB (nrm (fld P s f)) fun p => oB (nrm (x.step p.1)) fun r => 0 < p.2.1 ∧ oneV m x = true ∧ K r := by
  unfold faddrVC
  cases fld P s f with
  | none => rfl
  | some p =>
    simp only [nrm, oB_some]
    cases x.step p.1 <;> rfl
theorem S1_fieldAddr {s f : Nat} {x : Operand} : S1 P ⟨d, .fieldAddr s x f, ty, ps, af, g⟩ ⟨t, m, gs⟩ K = faddrVC P s f m (St.ev t x) fun r => K ⟨putT t d r, m, gs⟩ := by simp [S1, Q1]
@[congr] theorem fieldVC_congr {s f : Nat} {x x' : V} {K : V → Prop} (h1 : x = x') : fieldVC P s f x K = fieldVC P s f x' K := by rw [h1]
theorem fieldVC_eq {s f : Nat} {cs : List V} {K : V → Prop} : fieldVC P s f (.agg cs) K = oT (nrm (fld P s f)) fun off n ag => rdVC ag n (cs.drop off) K := by
  unfold fieldVC
  cases fld P s f <;> rfl
theorem S1_field {s f : Nat} {x : Operand} : S1 P ⟨d, .field s x f, ty, ps, af, g⟩ ⟨t, m, gs⟩ K = fieldVC P s f (St.ev t x) fun r => K ⟨putT t d r, m, gs⟩ := by simp [S1, Q1]
@[congr] theorem iaddrVC_congr {e : TypeId} {m m' : List Ob} {x x' y y' : V} {K : V → Prop} (h0 : m = m') (h1 : x = x') (h2 : y = y') : iaddrVC P e m x y K = iaddrVC P e m' x' y' K := by rw [h0, h1, h2]
theorem iaddrVC_sl {e : TypeId} {sz : Nat} {xs : List (List V)} {k : IntKind} {i : Int} {K : V → Prop} : iaddrVC P e m (.sl sz xs) (.int k i) K = oB (nrm (elt P e)) fun u => oB (nrm (lay P u)) fun p => sz = p.1 ∧ 0 ≤ i ∧ i < xs.length ∧ K (.sptr p.1 xs i.toNat 0) := by
  unfold iaddrVC
  cases elt P e with
  | none => rfl
  | some u =>
    simp only [nrm, oB_some]
    cases lay P u <;> rfl
theorem iaddrVC_ar {e : TypeId} {q off len : Nat} {k : IntKind} {i : Int} {K : V → Prop} : iaddrVC P e m (.ar q off len) (.int k i) K = oB (nrm (elt P e)) fun u => oB (nrm (lay P u)) fun p => oB (nrm (arrAt m q)) fun a => a.1 = p.1 ∧ 0 ≤ i ∧ i < len ∧ K (.eptr q (off + i.toNat) 0) := by
  unfold iaddrVC arrAt
  cases elt P e with
  | none => rfl
  | some u =>
    simp only [nrm, oB_some]
    cases lay P u with
    | none => rfl
    | some p =>
      simp only [nrm, oB_some]
      cases m[q]? with
      | none => rfl
      | some ob => cases ob <;> rfl
theorem S1_indexAddr {e : TypeId} {x y : Operand} : S1 P ⟨d, .indexAddr e x y, ty, ps, af, g⟩ ⟨t, m, gs⟩ K = iaddrVC P e m (St.ev t x) (St.ev t y) fun r => K ⟨putT t d r, m, gs⟩ := by simp [S1, Q1]
@[congr] theorem indexVC_congr {e : TypeId} {x x' y y' : V} {K : V → Prop} (h1 : x = x') (h2 : y = y') : indexVC P e x y K = indexVC P e x' y' K := by rw [h1, h2]
theorem indexVC_eq {e : TypeId} {s : ByteArray} {k : IntKind} {i : Int} {K : V → Prop} : indexVC P e (.str s) (.int k i) K = (isStrT P e = true ∧ 0 ≤ i ∧ i < s.size ∧ K (.int .u8 (byteAt s i.toNat))) := nr rfl
theorem S1_index {e : TypeId} {x y : Operand} : S1 P ⟨d, .index e x y, ty, ps, af, g⟩ ⟨t, m, gs⟩ K = indexVC P e (St.ev t x) (St.ev t y) fun r => K ⟨putT t d r, m, gs⟩ := by simp [S1, Q1]
@[congr] theorem extrVC_congr {i : Nat} {x x' : V} {K : V → Prop} (h1 : x = x') : extrVC x i K = extrVC x' i K := by rw [h1]
theorem extrVC_eq {i : Nat} {vs : List V} {K : V → Prop} : extrVC (.tup vs) i K = oB (nrm vs[i]?) K := by
  rw [oB_get' (d := .junk)]; rfl
theorem S1_extract {i : Nat} {x : Operand} : S1 P ⟨d, .extract x i, ty, ps, af, g⟩ ⟨t, m, gs⟩ K = extrVC (St.ev t x) i fun r => K ⟨putT t d r, m, gs⟩ := by simp [S1, Q1]
@[congr] theorem lenVC_congr {e : TypeId} {m m' : List Ob} {x x' : V} {K : V → Prop} (h0 : m = m') (h1 : x = x') : lenVC P e m x K = lenVC P e m' x' K := by rw [h0, h1]
theorem lenVC_str {e : TypeId} {s : ByteArray} {K : V → Prop} : lenVC P e m (.str s) K = (isStrT P e = true ∧ K (.int .i64 s.size)) := nr rfl
theorem lenVC_sl {e : TypeId} {sz : Nat} {xs : List (List V)} {K : V → Prop} : lenVC P e m (.sl sz xs) K = oB (nrm (elt P e)) fun _ => K (.int .i64 xs.length) := by
  simp only [lenVC]
  cases elt P e <;> simp [oB, nrm]
theorem lenVC_nil {e : TypeId} {K : V → Prop} : lenVC P e m .nil K = oB (nrm (elt P e)) fun _ => K (.int .i64 0) := by
  simp only [lenVC]
  cases elt P e <;> simp [oB, nrm]
theorem lenVC_ar {e : TypeId} {q off len : Nat} {K : V → Prop} : lenVC P e m (.ar q off len) K = oB (nrm (elt P e)) fun _ => oB (nrm (arrAt m q)) fun _ => K (.int .i64 len) := by
  simp only [lenVC, arrAt]
  cases elt P e with
  | none => cases m[q]? with
    | none => rfl
    | some ob => cases ob <;> simp [oB, nrm]
  | some u =>
    cases m[q]? with
    | none => rfl
    | some ob => cases ob <;> simp [oB, nrm]
theorem lenVC_arc {e : TypeId} {q off len cap : Nat} {K : V → Prop} : lenVC P e m (.arc q off len cap) K = oB (nrm (elt P e)) fun _ => oB (nrm (arrAt m q)) fun _ => K (.int .i64 len) := by
  simp only [lenVC, arrAt]
  cases elt P e with
  | none => cases m[q]? with
    | none => rfl
    | some ob => cases ob <;> simp [oB, nrm]
  | some u =>
    cases m[q]? with
    | none => rfl
    | some ob => cases ob <;> simp [oB, nrm]
@[congr] theorem capVC_congr {e : TypeId} {m m' : List Ob} {x x' : V} {K : V → Prop} (h0 : m = m') (h1 : x = x') : capVC P e m x K = capVC P e m' x' K := by rw [h0, h1]
theorem capVC_arc {e : TypeId} {q off len cap : Nat} {K : V → Prop} : capVC P e m (.arc q off len cap) K = oB (nrm (elt P e)) fun _ => oB (nrm (arrAt m q)) fun _ => K (.int .i64 cap) := by
  simp only [capVC, arrAt]
  cases elt P e with
  | none => cases m[q]? with
    | none => rfl
    | some ob => cases ob <;> simp [oB, nrm]
  | some u =>
    cases m[q]? with
    | none => rfl
    | some ob => cases ob <;> simp [oB, nrm]
theorem S1_cap {x : Operand} {e : TypeId} : S1 P ⟨d, .call { callee := .builtin .cap, args := #[x], argTypes := #[e] }, ty, ps, af, g⟩ ⟨t, m, gs⟩ K = capVC P e m (St.ev t x) fun r => K ⟨putT t d r, m, gs⟩ := by
  simp [S1, cVC, biVC]
theorem S1_len {x : Operand} {e : TypeId} : S1 P ⟨d, .call { callee := .builtin .len, args := #[x], argTypes := #[e] }, ty, ps, af, g⟩ ⟨t, m, gs⟩ K = lenVC P e m (St.ev t x) fun r => K ⟨putT t d r, m, gs⟩ := by
  simp [S1, cVC, biVC]
def mmX (gt : Bool) (x y : V) (K : V → Prop) : Prop := oB (nrm (mm gt x y)) K
@[congr] theorem mmX_congr {gt : Bool} {x x' y y' : V} {K : V → Prop} (h1 : x = x') (h2 : y = y') : mmX gt x y K = mmX gt x' y' K := by rw [h1, h2]
theorem mmX_eq {gt : Bool} {x y : V} {K : V → Prop} : mmX gt x y K = oB (nrm (mm gt x y)) K := nr rfl
theorem S1_min {x y : Operand} {ts : Array TypeId} : S1 P ⟨d, .call { callee := .builtin .min, args := #[x, y], argTypes := ts }, ty, ps, af, g⟩ ⟨t, m, gs⟩ K = mmX false (St.ev t x) (St.ev t y) fun r => K ⟨putT t d r, m, gs⟩ := by
  simp only [S1, cVC, biVC, mmX, List.map_cons, List.map_nil]
  cases mm false (St.ev t x) (St.ev t y) <;> simp [oB, nrm]
theorem S1_max {x y : Operand} {ts : Array TypeId} : S1 P ⟨d, .call { callee := .builtin .max, args := #[x, y], argTypes := ts }, ty, ps, af, g⟩ ⟨t, m, gs⟩ K = mmX true (St.ev t x) (St.ev t y) fun r => K ⟨putT t d r, m, gs⟩ := by
  simp only [S1, cVC, biVC, mmX, List.map_cons, List.map_nil]
  cases mm true (St.ev t x) (St.ev t y) <;> simp [oB, nrm]
@[congr] theorem callVC_congr {f : FuncId} {xs xs' : List V} {m m' : List Ob} {b b' : Nat} {K : V → List Ob → Prop} (h1 : xs = xs') (h0 : m = m') (h2 : b = b') : callVC P f xs m b K = callVC P f xs' m' b' K := by rw [h1, h0, h2]
def clX (P : Program) (x : V) (xs : List V) (m : List Ob) (K KL : V → List Ob → Prop) : Prop := match x with
  | .fn f fs cs => callVC P f (fs ++ xs ++ cs) m m.length K ∨ (lcVC P f (fs ++ xs ++ cs) m KL ∨ ovVC P f fs cs xs m KL)
  | _ => False
@[congr] theorem clX_congr {x x' : V} {xs xs' : List V} {m m' : List Ob} {K KL : V → List Ob → Prop} (h0 : x = x') (h1 : xs = xs') (h2 : m = m') : clX P x xs m K KL = clX P x' xs' m' K KL := by rw [h0, h1, h2]
theorem clX_fn {f : FuncId} {fs cs xs : List V} {K KL : V → List Ob → Prop} : clX P (.fn f fs cs) xs m K KL = (callVC P f (fs ++ xs ++ cs) m m.length K ∨ (lcVC P f (fs ++ xs ++ cs) m KL ∨ ovVC P f fs cs xs m KL)) := nr rfl
/-- What follows a call; it is not looked into before the call's answer is known. -/
class KB where
  k : V → List Ob → Prop
  l : V → List Ob → Prop
def clY (P : Program) (x : V) (xs : List V) (m : List Ob) [kb : KB] : Prop := clX P x xs m kb.k kb.l
@[congr] theorem clY_congr {x x' : V} {xs xs' : List V} {m m' : List Ob} [kb : KB] (h0 : x = x') (h1 : xs = xs') (h2 : m = m') : clY P x xs m = clY P x' xs' m' := by rw [h0, h1, h2]
theorem S1_call {x : Operand} {as : Array Operand} {ts : Array TypeId} : S1 P ⟨d, .call { callee := .value x, args := as, argTypes := ts }, ty, ps, af, g⟩ ⟨t, m, gs⟩ K = @clY P (St.ev t x) (as.toList.map (St.ev t)) m ⟨fun r new => K ⟨putT t d r, m ++ new, gs⟩, fun r m' => K ⟨putT t d r, m', gs⟩⟩ := by
  simp only [S1, cVC, lcV, clY, clX]
  cases St.ev t x <;> first | rfl | simp
theorem T1_call' {x : Operand} {as : Array Operand} {ts : Array TypeId} : T1 P ⟨d, .call { callee := .value x, args := as, argTypes := ts }, ty, ps, af, g⟩ ⟨t, m, gs⟩ K = @clY P (St.ev t x) (as.toList.map (St.ev t)) m ⟨fun r new => K ⟨putT t d r, m ++ new, gs⟩, fun _ _ => False⟩ := by
  simp only [T1, Q1, cVC, clY, clX]
  cases St.ev t x <;> first | rfl | simp [lcVC, ovVC]
@[congr] theorem appVC_congr {e e' : TypeId} {m m' : List Ob} {x x' y y' : V} {K : V → List Ob → Prop} (h0 : m = m') (h1 : x = x') (h2 : y = y') : appVC P e e' m x y K = appVC P e e' m' x' y' K := by rw [h0, h1, h2]
theorem appVC_ar {e e' : TypeId} {q n : Nat} {y : V} {K : V → List Ob → Prop} : appVC P e e' m (.ar q 0 n) y K =
    oB (nrm (elt P e)) fun u => oB (nrm (lay P u)) fun p => oB (nrm (zer P u)) fun zs => oB (nrm (srcV m p.1 y)) fun ys => oB (nrm (arrLv m q)) fun a =>
      0 < p.1 ∧ zs.length = p.1 ∧ seqT P e' = true ∧ (∀ z ∈ ys, z.length = p.1) ∧ (∀ z ∈ ys.flatten, oneV m z = true) ∧ a.1 = p.1 ∧ a.2.length = n ∧ (n + ys.length) * P.bytesOf u ≤ 2 ^ 47 ∧ n + ys.length ≤ 2 ^ 62 ∧
        K (.ar m.length 0 (n + ys.length)) (m.set q .dead ++ [.arr true p.1 (a.2 ++ ys)]) := by
  unfold appVC arrLv
  cases elt P e with
  | none => rfl
  | some u =>
    simp only [nrm, oB_some]
    cases lay P u with
    | none => rfl
    | some p =>
      obtain ⟨sz, ag⟩ := p
      cases zer P u with
      | none => rfl
      | some zs =>
        simp only [nrm, oB_some]
        cases srcV m sz y with
        | none => rfl
        | some ys =>
          simp only [nrm, oB_some]
          cases m[q]? with
          | none => simp [oB, nrm]
          | some ob => cases ob <;> first | (simp [oB, nrm]; done) | (rename_i lv a b; cases lv <;> simp [oB, nrm])
theorem appVC_arcS {e e' : TypeId} {q off len cap q' off' len' cap' : Nat} {K : V → List Ob → Prop} : appVC P e e' m (.arc q off len cap) (.arc q' off' len' cap') K =
    oB (nrm (elt P e)) fun u => oB (nrm (lay P u)) fun p => oB (nrm (zer P u)) fun zs => oB (nrm (arrAt m q')) fun b => oB (nrm (arrLv m q)) fun a =>
      0 < p.1 ∧ zs.length = p.1 ∧ seqT P e' = true ∧ (∀ z ∈ (b.2.drop off').take len', z.length = p.1) ∧ (∀ z ∈ ((b.2.drop off').take len').flatten, oneV m z = true) ∧ a.1 = p.1 ∧ len + ((b.2.drop off').take len').length ≤ cap ∧ off + len + ((b.2.drop off').take len').length ≤ a.2.length ∧
        K (.arc q off (len + ((b.2.drop off').take len').length) cap) (m.set q (.arr true p.1 (a.2.take (off + len) ++ (b.2.drop off').take len' ++ a.2.drop (off + len + ((b.2.drop off').take len').length)))) := by
  unfold appVC arrLv
  cases elt P e with
  | none => rfl
  | some u =>
    simp only [nrm, oB_some]
    cases lay P u with
    | none => rfl
    | some p =>
      obtain ⟨sz, ag⟩ := p
      cases zer P u with
      | none => rfl
      | some zs =>
        simp only [nrm, oB_some, srcV, elemsV_arc]
        cases arrAt m q' with
        | none => rfl
        | some b =>
          simp only [nrm, oB_some, Option.map_some]
          cases m[q]? with
          | none => simp [oB, nrm]
          | some ob => cases ob <;> first | (simp [oB, nrm]; done) | (rename_i lv a b; cases lv <;> simp [oB, nrm])
theorem appVC_arcI {e e' : TypeId} {q off len cap : Nat} {ik : IntKind} {n : Int} {K : V → List Ob → Prop} : appVC P e e' m (.arc q off len cap) (.int ik n) K =
    oB (nrm (elt P e)) fun u => oB (nrm (lay P u)) fun p => oB (nrm (zer P u)) fun zs => oB (nrm (arrLv m q)) fun a => oB (nrm (intT P e')) fun _ =>
      a.1 = p.1 ∧ 0 < p.1 ∧ zs.length = p.1 ∧ 0 < n ∧ cap < len + n.toNat ∧ (len + n.toNat) * P.bytesOf u ≤ 2 ^ 47 ∧ len + n.toNat ≤ 2 ^ 62 ∧ K (.ar m.length 0 (len + n.toNat)) (m ++ [.arr true p.1 ((a.2.drop off).take len ++ List.replicate n.toNat zs)]) := by
  unfold appVC arrLv
  cases elt P e with
  | none => rfl
  | some u =>
    simp only [nrm, oB_some]
    cases lay P u with
    | none => rfl
    | some p =>
      obtain ⟨sz, ag⟩ := p
      cases zer P u with
      | none => rfl
      | some zs =>
        simp only [nrm, oB_some, srcV, elemsV]
        cases m[q]? with
        | none => simp [oB]
        | some ob => cases ob <;> first | (simp [oB, nrm]; done) | (rename_i lv a b; cases lv <;> cases intT P e' <;> simp [oB, nrm])
theorem appVC_nil {e e' : TypeId} {y : V} {K : V → List Ob → Prop} : appVC P e e' m .nil y K =
    oB (nrm (elt P e)) fun u => oB (nrm (lay P u)) fun p => oB (nrm (zer P u)) fun zs => oB (nrm (srcV m p.1 y)) fun ys =>
      0 < p.1 ∧ zs.length = p.1 ∧ seqT P e' = true ∧ (∀ z ∈ ys, z.length = p.1) ∧ (∀ z ∈ ys.flatten, oneV m z = true) ∧ ys.length * P.bytesOf u ≤ 2 ^ 47 ∧ ys.length ≤ 2 ^ 62 ∧
        K (.ar (m.length + 1) 0 ys.length) (m ++ [.dead, .arr true p.1 ys]) := by
  unfold appVC
  cases elt P e with
  | none => rfl
  | some u =>
    simp only [nrm, oB_some]
    cases lay P u with
    | none => rfl
    | some p =>
      obtain ⟨sz, ag⟩ := p
      cases zer P u with
      | none => rfl
      | some zs =>
        simp only [nrm, oB_some]
        cases srcV m sz y <;> rfl
theorem appVC_e0 {e e' : TypeId} {y : V} {K : V → List Ob → Prop} : appVC P e e' m .e0 y K =
    oB (nrm (elt P e)) fun u => oB (nrm (lay P u)) fun p => oB (nrm (zer P u)) fun zs => oB (nrm (srcV m p.1 y)) fun ys =>
      0 < p.1 ∧ zs.length = p.1 ∧ seqT P e' = true ∧ (∀ z ∈ ys, z.length = p.1) ∧ (∀ z ∈ ys.flatten, oneV m z = true) ∧ ys.length * P.bytesOf u ≤ 2 ^ 47 ∧ ys.length ≤ 2 ^ 62 ∧
        K (.ar m.length 0 ys.length) (m ++ [.arr true p.1 ys]) := by
  unfold appVC
  cases elt P e with
  | none => rfl
  | some u =>
    simp only [nrm, oB_some]
    cases lay P u with
    | none => rfl
    | some p =>
      obtain ⟨sz, ag⟩ := p
      cases zer P u with
      | none => rfl
      | some zs =>
        simp only [nrm, oB_some]
        cases srcV m sz y <;> rfl
@[congr] theorem ap0VC_congr {e e' : TypeId} {m m' : List Ob} {b b' : Nat} {x x' y y' : V} {K : V → List Ob → Prop} (h0 : m = m') (hb : b = b') (h1 : x = x') (h2 : y = y') : ap0VC P e e' m b x y K = ap0VC P e e' m' b' x' y' K := by rw [h0, hb, h1, h2]
theorem ap0VC_e0 {e e' : TypeId} {b : Nat} {y : V} {K : V → List Ob → Prop} : ap0VC P e e' m b .e0 y K =
    oB (nrm (elt P e)) fun u => oB (nrm (lay P u)) fun p => oB (nrm (zer P u)) fun zs => oB (nrm (srcV m p.1 y)) fun ys =>
      0 < p.1 ∧ zs.length = p.1 ∧ seqT P e' = true ∧ (∀ z ∈ ys, z.length = p.1) ∧ ys.length * P.bytesOf u ≤ 2 ^ 47 ∧ ys.length ≤ 2 ^ 62 ∧
        K (.ar b 0 ys.length) [.arr true p.1 ys] := by
  unfold ap0VC
  cases elt P e with
  | none => rfl
  | some u =>
    simp only [nrm, oB_some]
    cases lay P u with
    | none => rfl
    | some p =>
      obtain ⟨sz, ag⟩ := p
      cases zer P u with
      | none => rfl
      | some zs =>
        simp only [nrm, oB_some]
        cases srcV m sz y with
        | none => rfl
        | some ys => simp [oB]
theorem ap0VC_nil {e e' : TypeId} {b : Nat} {y : V} {K : V → List Ob → Prop} : ap0VC P e e' m b .nil y K =
    oB (nrm (elt P e)) fun u => oB (nrm (lay P u)) fun p => oB (nrm (zer P u)) fun zs => oB (nrm (srcV m p.1 y)) fun ys =>
      0 < p.1 ∧ zs.length = p.1 ∧ seqT P e' = true ∧ (∀ z ∈ ys, z.length = p.1) ∧ ys.length * P.bytesOf u ≤ 2 ^ 47 ∧ ys.length ≤ 2 ^ 62 ∧
        K (.ar b 0 ys.length) [.arr true p.1 ys] := by
  unfold ap0VC
  cases elt P e with
  | none => rfl
  | some u =>
    simp only [nrm, oB_some]
    cases lay P u with
    | none => rfl
    | some p =>
      obtain ⟨sz, ag⟩ := p
      cases zer P u with
      | none => rfl
      | some zs =>
        simp only [nrm, oB_some]
        cases srcV m sz y with
        | none => rfl
        | some ys => simp [oB]
theorem T1_append {x y : Operand} {e e' : TypeId} : T1 P ⟨d, .call { callee := .builtin .append, args := #[x, y], argTypes := #[e, e'] }, ty, ps, af, g⟩ ⟨t, m, gs⟩ K = ap0VC P e e' m m.length (St.ev t x) (St.ev t y) fun r new => K ⟨putT t d r, m ++ new, gs⟩ := by simp [T1, Q1, cVC, apVC]
theorem T1_bs0 {e : TypeId} : T1 P ⟨d, .buildSlice e 0 #[], ty, ps, af, g⟩ ⟨t, m, gs⟩ K = oB (nrm (elt P e)) fun u => oB (nrm (lay P u)) fun _ => oB (nrm (zer P u)) fun _ => K ⟨putT t d .e0, m, gs⟩ := by
  simp only [T1, Q1, bslVC]
  cases elt P e with
  | none => rfl
  | some u =>
    simp only [nrm, oB_some]
    cases lay P u with
    | none => rfl
    | some p => cases zer P u <;> simp [oB]
theorem T1_bsS {e : TypeId} {n : Nat} {qs : Array (Nat × Operand)} : T1 P ⟨d, .buildSlice e (n + 1) qs, ty, ps, af, g⟩ ⟨t, m, gs⟩ K = S1 P ⟨d, .buildSlice e (n + 1) qs, ty, ps, af, g⟩ ⟨t, m, gs⟩ K := by
  simp only [T1, S1, Q1, bslVC]
@[congr] theorem clrVC_congr {e : TypeId} {m m' : List Ob} {x x' : V} {K : List Ob → Prop} (h0 : m = m') (h1 : x = x') : clrVC P e m x K = clrVC P e m' x' K := by rw [h0, h1]
theorem clrVC_ar {e : TypeId} {q off len : Nat} {K : List Ob → Prop} : clrVC P e m (.ar q off len) K =
    oB (nrm (elt P e)) fun u => oB (nrm (lay P u)) fun p => oB (nrm (zer P u)) fun zs => oB (nrm (arrLv m q)) fun a => a.1 = p.1 ∧ 0 < p.1 ∧ zs.length = p.1 ∧ zs.all (oneV m) = true ∧ K (m.set q (.arr true p.1 (a.2.take off ++ List.replicate len zs ++ a.2.drop (off + len)))) := by
  unfold clrVC arrLv
  cases elt P e with
  | none => rfl
  | some u =>
    simp only [nrm, oB_some]
    cases lay P u with
    | none => rfl
    | some p =>
      obtain ⟨sz, ag⟩ := p
      cases zer P u with
      | none => rfl
      | some zs =>
        simp only [nrm, oB_some, arV]
        cases m[q]? with
        | none => simp [oB, nrm]
        | some ob => cases ob <;> first | (simp [oB, nrm]; done) | (rename_i lv a b; cases lv <;> simp [oB, nrm])
theorem clrVC_arc {e : TypeId} {q off len cap : Nat} {K : List Ob → Prop} : clrVC P e m (.arc q off len cap) K =
    oB (nrm (elt P e)) fun u => oB (nrm (lay P u)) fun p => oB (nrm (zer P u)) fun zs => oB (nrm (arrLv m q)) fun a => a.1 = p.1 ∧ 0 < p.1 ∧ zs.length = p.1 ∧ zs.all (oneV m) = true ∧ K (m.set q (.arr true p.1 (a.2.take off ++ List.replicate len zs ++ a.2.drop (off + len)))) := clrVC_ar (off := off) (len := len)
@[congr] theorem cpyVC_congr {e : TypeId} {m m' : List Ob} {x x' y y' : V} {K : V → List Ob → Prop} (h0 : m = m') (h1 : x = x') (h2 : y = y') : cpyVC P e m x y K = cpyVC P e m' x' y' K := by rw [h0, h1, h2]
theorem cpyVC_eq {e : TypeId} {x y : V} {K : V → List Ob → Prop} : cpyVC P e m x y K =
    oB (nrm (elt P e)) fun u => oB (nrm (lay P u)) fun p => oB (nrm (elemsV m y)) fun ys => oB (nrm (arV x)) fun a => oB (nrm (arrLv m a.1)) fun b =>
      b.1 = p.1 ∧ 0 < p.1 ∧ (∀ z ∈ ys.take (Nat.min ys.length a.2.2), z.length = p.1) ∧ (∀ z ∈ (ys.take (Nat.min ys.length a.2.2)).flatten, oneV m z = true) ∧ K (.int .i64 (Nat.min ys.length a.2.2 : Nat)) (m.set a.1 (.arr true p.1 (b.2.take a.2.1 ++ ys.take (Nat.min ys.length a.2.2) ++ b.2.drop (a.2.1 + Nat.min ys.length a.2.2)))) := by
  unfold cpyVC arrLv
  cases elt P e with
  | none => rfl
  | some u =>
    simp only [nrm, oB_some]
    cases lay P u with
    | none => rfl
    | some p =>
      obtain ⟨sz, ag⟩ := p
      simp only [nrm, oB_some]
      cases elemsV m y with
      | none => cases arV x <;> rfl
      | some ys =>
        cases arV x with
        | none => rfl
        | some a =>
          obtain ⟨q, off, len⟩ := a
          simp only [nrm, oB_some]
          cases m[q]? with
          | none => rfl
          | some ob => cases ob <;> first | rfl | (rename_i lv a b; cases lv <;> rfl)
theorem S1_copy {x y : Operand} {e e' : TypeId} : S1 P ⟨d, .call { callee := .builtin .copy, args := #[x, y], argTypes := #[e, e'] }, ty, ps, af, g⟩ ⟨t, m, gs⟩ K = cpyVC P e m (St.ev t x) (St.ev t y) fun r m' => K ⟨putT t d r, m', gs⟩ := by simp [S1]
theorem arV_ar {q off len : Nat} : arV (.ar q off len) = some (q, off, len) := nr rfl
theorem arV_arc {q off len cap : Nat} : arV (.arc q off len cap) = some (q, off, len) := nr rfl
theorem S1_clear {x : Operand} {e : TypeId} : S1 P ⟨d, .call { callee := .builtin .clear, args := #[x], argTypes := #[e] }, ty, ps, af, g⟩ ⟨t, m, gs⟩ K = clrVC P e m (St.ev t x) fun m' => K ⟨putT t d (.tup []), m', gs⟩ := by simp [S1]
theorem S1_append {x y : Operand} {e e' : TypeId} : S1 P ⟨d, .call { callee := .builtin .append, args := #[x, y], argTypes := #[e, e'] }, ty, ps, af, g⟩ ⟨t, m, gs⟩ K = appVC P e e' m (St.ev t x) (St.ev t y) fun r m' => K ⟨putT t d r, m', gs⟩ := by simp [S1]
@[congr] theorem sliceVC_congr {e : TypeId} {m m' : List Ob} {ev : Operand → V} {x x' : V} {lo hi mx : Option Operand} {K : V → Prop} (h0 : m = m') (h1 : x = x') : sliceVC P e m ev x lo hi mx K = sliceVC P e m' ev x' lo hi mx K := by rw [h0, h1]
theorem sliceVC_str {e : TypeId} {ev : Operand → V} {s : ByteArray} {lo hi : Option Operand} {K : V → Prop} : sliceVC P e m ev (.str s) lo hi none K =
    oB (nrm (bnd ev 0 lo)) fun l => oB (nrm (bnd ev s.size hi)) fun h => isStrT P e = true ∧ 0 ≤ l ∧ l ≤ h ∧ h ≤ s.size ∧ K (.str (s.extract l.toNat h.toNat)) := by
  simp only [sliceVC]
  cases bnd ev 0 lo with
  | none => rfl
  | some l => cases bnd ev s.size hi <;> rfl
theorem sliceVC_sl {e : TypeId} {ev : Operand → V} {sz : Nat} {xs : List (List V)} {lo hi : Option Operand} {K : V → Prop} : sliceVC P e m ev (.sl sz xs) lo hi none K =
    oB (nrm (elt P e)) fun u => oB (nrm (lay P u)) fun p => oB (nrm (bnd ev 0 lo)) fun l => oB (nrm (bnd ev xs.length hi)) fun h => p.1 = sz ∧ 0 ≤ l ∧ l ≤ h ∧ h ≤ xs.length ∧ K (.sl sz ((xs.take h.toNat).drop l.toNat)) := by
  simp only [sliceVC]
  cases elt P e with
  | none => rfl
  | some u =>
    simp only [nrm, oB_some]
    cases lay P u with
    | none => rfl
    | some p =>
      simp only [nrm, oB_some]
      cases bnd ev 0 lo with
      | none => rfl
      | some l => cases bnd ev xs.length hi <;> rfl
theorem sliceVC_ar {e : TypeId} {ev : Operand → V} {q off len : Nat} {lo hi : Option Operand} {K : V → Prop} : sliceVC P e m ev (.ar q off len) lo hi none K =
    oB (nrm (elt P e)) fun u => oB (nrm (lay P u)) fun p => oB (nrm (bnd ev 0 lo)) fun l => oB (nrm (bnd ev len hi)) fun h => oB (nrm (arrAt m q)) fun a => p.1 = a.1 ∧ 0 ≤ l ∧ l ≤ h ∧ h ≤ len ∧ K (.ar q (off + l.toNat) (h.toNat - l.toNat)) := by
  simp only [sliceVC, arrAt]
  cases elt P e with
  | none => rfl
  | some u =>
    simp only [nrm, oB_some]
    cases lay P u with
    | none => rfl
    | some p =>
      simp only [nrm, oB_some]
      cases bnd ev 0 lo with
      | none => rfl
      | some l =>
        cases bnd ev len hi with
        | none => rfl
        | some h =>
          simp only [nrm, oB_some]
          cases m[q]? with
          | none => rfl
          | some ob => cases ob <;> rfl
theorem sliceVC_arc {e : TypeId} {ev : Operand → V} {q off len cap : Nat} {lo hi : Option Operand} {K : V → Prop} : sliceVC P e m ev (.arc q off len cap) lo hi none K =
    oB (nrm (elt P e)) fun u => oB (nrm (lay P u)) fun p => oB (nrm (bnd ev 0 lo)) fun l => oB (nrm (bnd ev len hi)) fun h => oB (nrm (arrAt m q)) fun a => p.1 = a.1 ∧ 0 ≤ l ∧ l ≤ h ∧ h ≤ cap ∧ off + h.toNat ≤ a.2.length ∧ K (.arc q (off + l.toNat) (h.toNat - l.toNat) (cap - l.toNat)) := by
  simp only [sliceVC, arrAt]
  cases elt P e with
  | none => rfl
  | some u =>
    simp only [nrm, oB_some]
    cases lay P u with
    | none => rfl
    | some p =>
      simp only [nrm, oB_some]
      cases bnd ev 0 lo with
      | none => rfl
      | some l =>
        cases bnd ev len hi with
        | none => rfl
        | some h =>
          simp only [nrm, oB_some]
          cases m[q]? with
          | none => rfl
          | some ob => cases ob <;> rfl
theorem sliceVC_3 {e : TypeId} {ev : Operand → V} {q off len cap : Nat} {xl xh xm : Operand} {K : V → Prop} : sliceVC P e m ev (.arc q off len cap) (some xl) (some xh) (some xm) K =
    oB (nrm (elt P e)) fun u => oB (nrm (lay P u)) fun p => oB (nrm (bnd ev 0 (some xl))) fun l => oB (nrm (bnd ev 0 (some xh))) fun h => oB (nrm (bnd ev 0 (some xm))) fun k => oB (nrm (arrAt m q)) fun a => p.1 = a.1 ∧ 0 ≤ l ∧ l ≤ h ∧ h ≤ k ∧ k ≤ cap ∧ K .junk := by
  simp only [sliceVC, arrAt, bnd]
  cases elt P e with
  | none => rfl
  | some u =>
    simp only [nrm, oB_some]
    cases lay P u with
    | none => rfl
    | some p =>
      simp only [nrm, oB_some]
      cases ev xl <;> first | rfl | skip
      cases ev xh <;> first | rfl | skip
      cases ev xm <;> first | rfl | skip
      simp only [oB_some]
      cases m[q]? with
      | none => rfl
      | some ob => cases ob <;> rfl
theorem sliceVC_nil {e : TypeId} {ev : Operand → V} {lo hi : Option Operand} {K : V → Prop} : sliceVC P e m ev .nil lo hi none K =
    oB (nrm (elt P e)) fun u => oB (nrm (lay P u)) fun p => oB (nrm (bnd ev 0 lo)) fun l => oB (nrm (bnd ev 0 hi)) fun h => l = 0 ∧ h = 0 ∧ K .nil := by
  simp only [sliceVC]
  cases elt P e with
  | none => rfl
  | some u =>
    simp only [nrm, oB_some]
    cases lay P u with
    | none => rfl
    | some p =>
      simp only [nrm, oB_some]
      cases bnd ev 0 lo with
      | none => rfl
      | some l => cases bnd ev 0 hi <;> rfl
theorem S1_slice {e : TypeId} {x : Operand} {lo hi : Option Operand} : S1 P ⟨d, .slice e x lo hi none, ty, ps, af, g⟩ ⟨t, m, gs⟩ K = sliceVC P e m (St.ev t) (St.ev t x) lo hi none fun r => K ⟨putT t d r, m, gs⟩ := by simp [S1, Q1]
theorem S1_slice3 {e : TypeId} {x xm : Operand} {lo hi : Option Operand} : S1 P ⟨d, .slice e x lo hi (some xm), ty, ps, af, g⟩ ⟨t, m, gs⟩ K = sliceVC P e m (St.ev t) (St.ev t x) lo hi (some xm) fun r => K ⟨putT t d r, m, gs⟩ := by simp [S1, Q1]
theorem S1_build {e : TypeId} {ps' : Array (Nat × Operand)} : S1 P ⟨d, .build e ps', ty, ps, af, g⟩ ⟨t, m, gs⟩ K = oB (nrm (zer P e)) fun zs => oB (nrm (partsV m (St.ev t) ps'.toList)) fun qs => oB (nrm (fillG (placeS P e) zs qs)) fun cs => fldsOK P e = true ∧ K ⟨putT t d (.agg cs), m, gs⟩ := by
  simp only [S1, Q1, buildVC]
  cases zer P e with
  | none => rfl
  | some zs =>
    cases partsV m (St.ev t) ps'.toList with
    | none => rfl
    | some qs =>
      simp only [nrm, oB_some]
      cases fillG (placeS P e) zs qs <;> simp [oB, nrm]
theorem S1_buildSlice {e : TypeId} {len : Nat} {ps' : Array (Nat × Operand)} : S1 P ⟨d, .buildSlice e len ps', ty, ps, af, g⟩ ⟨t, m, gs⟩ K =
    oB (nrm (elt P e)) fun u => oB (nrm (lay P u)) fun p => oB (nrm (zer P u)) fun _ => oB (nrm (rowV m (St.ev t) p.1 0 ps'.toList)) fun xs => 0 < p.1 ∧ xs.length = len ∧ len * p.1 ≤ 2 ^ 24 ∧ K ⟨putT t d (.ar m.length 0 len), m ++ [.arr true p.1 xs], gs⟩ := by
  simp only [S1, Q1, bsliceVC]
  cases elt P e with
  | none => rfl
  | some u =>
    simp only [nrm, oB_some]
    cases lay P u with
    | none => rfl
    | some p =>
      cases zer P u with
      | none => rfl
      | some zs =>
        simp only [nrm, oB_some]
        cases rowV m (St.ev t) p.1 0 ps'.toList <;> rfl
/-- Quiet operations are the same in a drawn region. -/
theorem T1_eq {o : Oper} (h : match o.op with | .store .. => False | .binOp .. => False | .buildSlice .. => False | .call c => (match c.callee with | .builtin .append => False | .builtin .clear => False | .builtin .copy => False | .value _ => False | _ => True) | _ => True) : T1 P o st K = S1 P o st K := by
  obtain ⟨d, op, ty, ps, af, g⟩ := o
  cases op <;> first | rfl | exact h.elim | skip
  rename_i c
  obtain ⟨callee, args, ts⟩ := c
  cases callee <;> first | rfl | exact h.elim | skip
  rename_i b
  cases b <;> first | rfl | exact h.elim
end
end Go.Pm
