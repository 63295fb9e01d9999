/- The abstract machine: the set of its rewriting rules. -/
import Derived.Test.YtkdaijcdddomjaaPm21
set_option linter.unusedVariables false
namespace Go.Pm
open Go.RowKit
theorem putT_some {t : List V} {d : Tmp} {x : V} : putT t (some d) x = t.set d x := by cases t <;> rfl
theorem putT_none {t : List V} {x : V} : putT t none x = t := by cases t <;> rfl
theorem ev_tmp {t : List V} {i : Tmp} : St.ev t (.tmp i) = t.getD i .junk := by cases t <;> rfl
theorem ev_const {t : List V} {v : Value} : St.ev t (.const v) = ofVal v := by cases t <;> rfl
theorem ev_func {t : List V} {f : FuncId} : St.ev t (.func f) = .fn f [] [] := by cases t <;> rfl
theorem ofVal_int {k : IntKind} {n : Int} : ofVal (.int k n) = .int k n := nr rfl
theorem ofVal_bool {b : Bool} : ofVal (.bool b) = .bool b := nr rfl
theorem ofVal_str {s : ByteArray} : ofVal (.string s) = .str s := nr rfl
theorem ofVal_nil : ofVal (.slice none 0 0) = .nil := nr rfl
theorem ofVal_agg {cs : Array Value} : ofVal (.agg cs) = .agg (cs.toList.map ofVal1) := nr rfl
theorem ofVal1_int {k : IntKind} {n : Int} : ofVal1 (.int k n) = .int k n := nr rfl
theorem ofVal1_bool {b : Bool} : ofVal1 (.bool b) = .bool b := nr rfl
theorem ofVal1_str {s : ByteArray} : ofVal1 (.string s) = .str s := nr rfl
theorem ofVal1_nil : ofVal1 (.slice none 0 0) = .nil := nr rfl
/-- A region's first operation. -/
def RSi (P : Program) (ds : List (Option Tmp)) (os : List Oper) (st : St) (K : St → Prop) : Prop := RS P ds os st K
def RQi (P : Program) (ds : List (Option Tmp)) (k : Nat) (os : List Oper) (st : St) (K : St → Prop) : Prop := RQ P ds k os st K
section
variable {P : Program} {ds : List (Option Tmp)} {o : Oper} {os : List Oper} {st : St} {K : St → Prop} {k : Nat}
@[congr] theorem RSi_congr {ds' : List (Option Tmp)} (h1 : ds = ds') : RSi P ds os st K = RSi P ds' os st K := by rw [h1]
@[congr] theorem RQi_congr {ds' : List (Option Tmp)} {k' : Nat} (h0 : k = k') (h1 : ds = ds') : RQi P ds k os st K = RQi P ds' k' os st K := by rw [h0, h1]
theorem RSi_nil : RSi P ds [] st K = K st := nr rfl
theorem RQi_nil : RQi P ds k [] st K = K st := RQ_nil
theorem RQi_zero : RQi P ds 0 os st K = RSi P ds os st K := RQ_zero
theorem CW_region' {id : Nat} {ops : Array Oper} {Q : Exit → St → Prop} : CW P (.region id ops false) st Q = RSi P (dsts ops) ops.toList st (Q .normal) := CW_region
theorem CW_drawn' {id : Nat} {ops : Array Oper} {Q : Exit → St → Prop} : CW P (.region id ops true) st Q = (P.follows .mixedOrders = true ∧ anyB ops (quietN ops.toList) = true ∧ RQi P (dsts ops) (quietN ops.toList) ops.toList st (Q .normal)) := CW_drawn
end
section
variable {P : Program} {ds : List (Option Tmp)} {os : List Oper} {t : List V} {m : List Ob} {gs : List V} {K : St → Prop} {d : Option Tmp} {op : Op} {ty : TypeId} {ps : String} {af : Array Edge} {j : Nat} {w : Bool} {k : Nat}
theorem RSi_cons_n : RSi P ds (⟨d, op, ty, ps, af, none⟩ :: os) ⟨t, m, gs⟩ K = S1 P ⟨d, op, ty, ps, af, none⟩ ⟨t, m, gs⟩ (fun st' => RS P ds os st' K) := RS_cons_n
theorem RSi_cons_g : RSi P ds (⟨d, op, ty, ps, af, some (j, w)⟩ :: os) ⟨t, m, gs⟩ K = oB (nrm (ds.getD j none)) fun d' => gB (St.ev t (.tmp d')) w (S1 P ⟨d, op, ty, ps, af, some (j, w)⟩ ⟨t.set d' (.bool w), m, gs⟩ (fun st' => RS P ds os st' K)) (RS P ds os ⟨putT (gset t d' w) d (.tup []), m, gs⟩ K) := RS_cons_g
theorem RQi_cons_n : RQi P ds (k + 1) (⟨d, op, ty, ps, af, none⟩ :: os) ⟨t, m, gs⟩ K = T1 P ⟨d, op, ty, ps, af, none⟩ ⟨t, m, gs⟩ (fun st' => RQ P ds k os st' K) := RQ_cons_n
theorem RQi_cons_g : RQi P ds (k + 1) (⟨d, op, ty, ps, af, some (j, w)⟩ :: os) ⟨t, m, gs⟩ K = oB (nrm (ds.getD j none)) fun d' => gB (St.ev t (.tmp d')) w (T1 P ⟨d, op, ty, ps, af, some (j, w)⟩ ⟨t.set d' (.bool w), m, gs⟩ (fun st' => RQ P ds k os st' K)) (RQ P ds k os ⟨putT (gset t d' w) d (.tup []), m, gs⟩ K) := RQ_cons_g
end
theorem dsts_mk {os : List Oper} : dsts os.toArray = mk8 (os.map (·.dst)) := nr rfl
section
variable {P : Program} {t : List V} {m : List Ob} {gs : List V} {K : St → Prop} {d : Option Tmp} {ty : TypeId} {ps : String} {af : Array Edge} {g : Option (Nat × Bool)}
end
theorem wkT_nil {ks : List Nat} : wkT ks [] [] = True := by simp [wkT]
theorem wkT_junk {ks : List Nat} {x : V} {xs ys : List V} : wkT ks (x :: xs) (.junk :: ys) = wkT ks xs ys := by simp [wkT]
theorem wkT_cons {ks : List Nat} {x y : V} {xs ys : List V} (h : y ≠ .junk) : wkT ks (x :: xs) (y :: ys) = ((Ref (· ∈ ks) x ∧ y = x.ren (idx ks)) ∧ wkT ks xs ys) := by simp [wkT, h]
def AllP (p : Nat → Prop) : List Nat → Prop
  | [] => True
  | k :: ks => p k ∧ AllP p ks
theorem AllP_nil {p : Nat → Prop} : AllP p [] = True := nr rfl
theorem AllP_cons {p : Nat → Prop} {k : Nat} {ks : List Nat} : AllP p (k :: ks) = (p k ∧ AllP p ks) := nr rfl
theorem AllP_iff {p : Nat → Prop} : ∀ {ks : List Nat}, AllP p ks ↔ ∀ q ∈ ks, p q
  | [] => by simp [AllP]
  | k :: ks => by simp [AllP, AllP_iff (ks := ks)]
theorem Wk_eq {ks : List Nat} {t t' gs gs' : List V} {m m' : List Ob} : Wk ks ⟨t, m, gs⟩ ⟨t', m', gs'⟩ = (ks.Nodup ∧ AllP (fun q => q < m.length) ks ∧ AllP (fun q => (m.getD q .hole).refs (· ∈ ks)) ks ∧ m' = (ks.map fun q => (m.getD q .hole).ren (idx ks)) ∧ wkT ks t t' ∧ wkT ks gs gs') := by
  rw [AllP_iff, AllP_iff]; rfl
theorem idx_z {k : Nat} {ks : List Nat} : idx (k :: ks) k = 0 := by simp [idx]
theorem idx_s {k q : Nat} {ks : List Nat} (h : k ≠ q) : idx (k :: ks) q = idx ks q + 1 := by simp [idx, h]
theorem Wk_nil {t t' : List V} : Wk [] ⟨t, [], []⟩ ⟨t', [], []⟩ = wkT [] t t' := by simp [Wk, wkT]
theorem LArg_eq {ks fz : List Nat} {m m0 : List Ob} {xs xs' : List V} : LArg ks fz m xs xs' m0 = (ks.Nodup ∧ AllP (fun q => q < m.length ∧ ((frzM fz m).getD q .hole).refs (· ∈ ks) ∧ ((frzM fz m).getD q .hole).alive = true) ks ∧ Refs (· ∈ ks) (convs (frzM fz m) xs) ∧ rens (idx ks) (convs (frzM fz m) xs) = xs' ∧ (ks.map fun q => ((frzM fz m).getD q .hole).ren (idx ks)) = m0) := by
  rw [AllP_iff]; rfl
theorem frzM_nil {m : List Ob} : frzM [] m = m := nr rfl
theorem frzM_cons {q : Nat} {qs : List Nat} {m : List Ob} : frzM (q :: qs) m = frzM qs (frz1 m q) := nr rfl
theorem frz1_z {ob : Ob} {m : List Ob} : frz1 (ob :: m) 0 = ob.still :: m := nr rfl
theorem frz1_s {ob : Ob} {m : List Ob} {q : Nat} : frz1 (ob :: m) (q + 1) = ob :: frz1 m q := by
  unfold frz1
  rw [List.getElem?_cons_succ]
  cases m[q]? <;> rfl
theorem still_box {lv : Bool} {cs : List V} : (Ob.box lv cs).still = .box false cs := nr rfl
theorem still_arr {lv : Bool} {sz : Nat} {xs : List (List V)} : (Ob.arr lv sz xs).still = .arr false sz xs := nr rfl
def arrFr (m : List Ob) (q : Nat) : Option (Nat × List (List V)) := match m[q]? with
  | some (.arr false sz xs) => some (sz, xs)
  | _ => none
def boxFr (m : List Ob) (q : Nat) : Option (List V) := match m[q]? with
  | some (.box false cs) => some cs
  | _ => none
theorem arrFr_f {sz : Nat} {xs : List (List V)} {m : List Ob} : arrFr (.arr false sz xs :: m) 0 = some (sz, xs) := nr rfl
theorem arrFr_t {sz : Nat} {xs : List (List V)} {m : List Ob} : arrFr (.arr true sz xs :: m) 0 = none := nr rfl
theorem arrFr_d {m : List Ob} : arrFr (.dead :: m) 0 = none := nr rfl
theorem arrFr_s {ob : Ob} {m : List Ob} {q : Nat} : arrFr (ob :: m) (q + 1) = arrFr m q := by simp [arrFr]
theorem boxFr_f {cs : List V} {m : List Ob} : boxFr (.box false cs :: m) 0 = some cs := nr rfl
theorem boxFr_t {cs : List V} {m : List Ob} : boxFr (.box true cs :: m) 0 = none := nr rfl
theorem boxFr_s {ob : Ob} {m : List Ob} {q : Nat} : boxFr (ob :: m) (q + 1) = boxFr m q := by simp [boxFr]
def convA (q off len : Nat) : Option (Nat × List (List V)) → V
  | some p => .sl p.1 ((p.2.drop off).take len)
  | none => .ar q off len
def convP (q off : Nat) : Option (List V) → V
  | some cs => .fptr cs off
  | none => .ptr q off
theorem conv_ar {m : List Ob} {q off len : Nat} : conv m (.ar q off len) = convA q off len (arrFr m q) := by
  simp only [conv, arrFr]
  split <;> rename_i h
  · rw [h]; rfl
  · cases hm : m[q]? with
    | none => rfl
    | some ob =>
      cases ob with
      | arr lv sz xs =>
        cases lv
        · exact absurd hm (h _ _)
        · rfl
      | _ => rfl
theorem conv_ptr {m : List Ob} {q off : Nat} : conv m (.ptr q off) = convP q off (boxFr m q) := by
  simp only [conv, boxFr]
  split <;> rename_i h
  · rw [h]; rfl
  · cases hm : m[q]? with
    | none => rfl
    | some ob =>
      cases ob with
      | box lv cs =>
        cases lv
        · exact absurd hm (h _)
        · rfl
      | _ => rfl
theorem convA_s {q off len sz : Nat} {xs : List (List V)} : convA q off len (some (sz, xs)) = .sl sz ((xs.drop off).take len) := nr rfl
theorem convA_n {q off len : Nat} : convA q off len none = .ar q off len := nr rfl
theorem convP_s {q off : Nat} {cs : List V} : convP q off (some cs) = .fptr cs off := nr rfl
theorem convP_n {q off : Nat} : convP q off none = .ptr q off := nr rfl
section
variable {m : List Ob}
theorem conv_agg {cs : List V} : conv m (.agg cs) = .agg (convs m cs) := nr rfl
theorem conv_tup {cs : List V} : conv m (.tup cs) = .tup (convs m cs) := nr rfl
theorem conv_fn {f : FuncId} {fs cs : List V} : conv m (.fn f fs cs) = .fn f (convs m fs) (convs m cs) := nr rfl
theorem conv_int {k : IntKind} {n : Int} : conv m (.int k n) = .int k n := nr rfl
theorem conv_bool {b : Bool} : conv m (.bool b) = .bool b := nr rfl
theorem conv_str {s : ByteArray} : conv m (.str s) = .str s := nr rfl
theorem conv_nil : conv m .nil = .nil := nr rfl
theorem conv_e0 : conv m .e0 = .e0 := nr rfl
theorem convR_e0 : convR m .e0 = .e0 := nr rfl
theorem bxX_e0 {K : List V → Prop} : bxX m .e0 K = K [.e0] := nr rfl
theorem conv_sl {sz : Nat} {xs : List (List V)} : conv m (.sl sz xs) = .sl sz xs := nr rfl
theorem conv_fptr {cs : List V} {off : Nat} : conv m (.fptr cs off) = .fptr cs off := nr rfl
theorem convs_nil : convs m [] = [] := nr rfl
theorem convs_cons {x : V} {xs : List V} : convs m (x :: xs) = conv m x :: convs m xs := nr rfl
end
theorem plc_nil {o : Nat} : plc o [] = [] := nr rfl
theorem plc_box {o : Nat} {lv : Bool} {cs : List V} {m : List Ob} : plc o (.box lv cs :: m) = .ptr o 0 :: plc (o + 1) m := nr rfl
theorem plc_arr {o : Nat} {lv : Bool} {sz : Nat} {xs : List (List V)} {m : List Ob} : plc o (.arr lv sz xs :: m) = .ar o 0 xs.length :: .eptr o 1 0 :: plc (o + 1) m := nr rfl
theorem sg_n {N i : Nat} : sg [] N i = N + i := by simp [sg]
theorem sg_z {q N : Nat} {ks : List Nat} : sg (q :: ks) N 0 = q := by simp [sg]
theorem sg_s {q N i : Nat} {ks : List Nat} : sg (q :: ks) N (i + 1) = sg ks N i := by simp [sg]
theorem bk_eq {α : Type} {m m' : List α} {ks : List Nat} : bk m ks m' = upd m ks m' ++ m'.drop ks.length := nr rfl
theorem upd_c {α : Type} {l xs : List α} {k : Nat} {ks : List Nat} {x : α} : upd l (k :: ks) (x :: xs) = upd (l.set k x) ks xs := nr rfl
theorem upd_n {α : Type} {l xs : List α} : upd l [] xs = l := by cases xs <;> rfl
theorem oren_box {ρ : Nat → Nat} {lv : Bool} {cs : List V} : (Ob.box lv cs).ren ρ = .box lv (rens ρ cs) := nr rfl
theorem oren_arr {ρ : Nat → Nat} {lv : Bool} {sz : Nat} {xs : List (List V)} : (Ob.arr lv sz xs).ren ρ = .arr lv sz (renss ρ xs) := nr rfl
theorem oren_dead {ρ : Nat → Nat} : Ob.dead.ren ρ = .dead := nr rfl
theorem renss_nil {ρ : Nat → Nat} : renss ρ [] = [] := nr rfl
theorem renss_cons {ρ : Nat → Nat} {x : List V} {xs : List (List V)} : renss ρ (x :: xs) = rens ρ x :: renss ρ xs := nr rfl
/-- A list of values, made up to n with junk. -/
def pad (n : Nat) (l : List V) : List V := mk8 (l ++ List.replicate (n - l.length) .junk)
section
variable {P : Program} {st : St} {K : St → Prop} {d : Option Tmp} {ty : TypeId} {ps : String} {af : Array Edge} {g : Option (Nat × Bool)}
theorem T1_move {x : Operand} : T1 P ⟨d, .move x, ty, ps, af, g⟩ st K = S1 P ⟨d, .move x, ty, ps, af, g⟩ st K := T1_eq trivial
theorem T1_assign {x : Operand} : T1 P ⟨d, .assign x, ty, ps, af, g⟩ st K = S1 P ⟨d, .assign x, ty, ps, af, g⟩ st K := T1_eq trivial
theorem T1_pick {x y z : Operand} : T1 P ⟨d, .pick x y z, ty, ps, af, g⟩ st K = S1 P ⟨d, .pick x y z, ty, ps, af, g⟩ st K := T1_eq trivial
theorem T1_alloc {e : TypeId} : T1 P ⟨d, .alloc e, ty, ps, af, g⟩ st K = S1 P ⟨d, .alloc e, ty, ps, af, g⟩ st K := T1_eq trivial
theorem T1_box {e : TypeId} {x : Operand} : T1 P ⟨d, .box e x, ty, ps, af, g⟩ st K = S1 P ⟨d, .box e x, ty, ps, af, g⟩ st K := T1_eq trivial
theorem T1_load {e : TypeId} {x : Operand} : T1 P ⟨d, .load e x, ty, ps, af, g⟩ st K = S1 P ⟨d, .load e x, ty, ps, af, g⟩ st K := T1_eq trivial
theorem T1_nilCheck {x : Operand} : T1 P ⟨d, .nilCheck x, ty, ps, af, g⟩ st K = S1 P ⟨d, .nilCheck x, ty, ps, af, g⟩ st K := T1_eq trivial
theorem T1_unOp {b : UnOp} {e : TypeId} {x : Operand} : T1 P ⟨d, .unOp b e x, ty, ps, af, g⟩ st K = S1 P ⟨d, .unOp b e x, ty, ps, af, g⟩ st K := T1_eq trivial
theorem T1_convert {s e : TypeId} {x : Operand} : T1 P ⟨d, .convert s e x, ty, ps, af, g⟩ st K = S1 P ⟨d, .convert s e x, ty, ps, af, g⟩ st K := T1_eq trivial
theorem T1_makeFunc {f : Fn} {fs cs : Array Operand} : T1 P ⟨d, .makeFunc f fs cs, ty, ps, af, g⟩ st K = S1 P ⟨d, .makeFunc f fs cs, ty, ps, af, g⟩ st K := T1_eq trivial
theorem T1_makeMap {e : TypeId} {x : Option Operand} : T1 P ⟨d, .makeMap e x, ty, ps, af, g⟩ st K = S1 P ⟨d, .makeMap e x, ty, ps, af, g⟩ st K := T1_eq trivial
theorem T1_makeSlice {e : TypeId} {x y : Operand} : T1 P ⟨d, .makeSlice e x y, ty, ps, af, g⟩ st K = S1 P ⟨d, .makeSlice e x y, ty, ps, af, g⟩ st K := T1_eq trivial
theorem T1_slice {e : TypeId} {x : Operand} {lo hi mx : Option Operand} : T1 P ⟨d, .slice e x lo hi mx, ty, ps, af, g⟩ st K = S1 P ⟨d, .slice e x lo hi mx, ty, ps, af, g⟩ st K := T1_eq trivial
theorem T1_fieldAddr {s f : Nat} {x : Operand} : T1 P ⟨d, .fieldAddr s x f, ty, ps, af, g⟩ st K = S1 P ⟨d, .fieldAddr s x f, ty, ps, af, g⟩ st K := T1_eq trivial
theorem T1_field {s f : Nat} {x : Operand} : T1 P ⟨d, .field s x f, ty, ps, af, g⟩ st K = S1 P ⟨d, .field s x f, ty, ps, af, g⟩ st K := T1_eq trivial
theorem T1_indexAddr {e : TypeId} {x y : Operand} : T1 P ⟨d, .indexAddr e x y, ty, ps, af, g⟩ st K = S1 P ⟨d, .indexAddr e x y, ty, ps, af, g⟩ st K := T1_eq trivial
theorem T1_index {e : TypeId} {x y : Operand} : T1 P ⟨d, .index e x y, ty, ps, af, g⟩ st K = S1 P ⟨d, .index e x y, ty, ps, af, g⟩ st K := T1_eq trivial
theorem T1_extract {i : Nat} {x : Operand} : T1 P ⟨d, .extract x i, ty, ps, af, g⟩ st K = S1 P ⟨d, .extract x i, ty, ps, af, g⟩ st K := T1_eq trivial
theorem T1_build {e : TypeId} {qs : Array (Nat × Operand)} : T1 P ⟨d, .build e qs, ty, ps, af, g⟩ st K = S1 P ⟨d, .build e qs, ty, ps, af, g⟩ st K := T1_eq trivial
theorem T1_len {as : Array Operand} {ts : Array TypeId} : T1 P ⟨d, .call { callee := .builtin .len, args := as, argTypes := ts }, ty, ps, af, g⟩ st K = S1 P ⟨d, .call { callee := .builtin .len, args := as, argTypes := ts }, ty, ps, af, g⟩ st K := T1_eq trivial
theorem T1_cap {as : Array Operand} {ts : Array TypeId} : T1 P ⟨d, .call { callee := .builtin .cap, args := as, argTypes := ts }, ty, ps, af, g⟩ st K = S1 P ⟨d, .call { callee := .builtin .cap, args := as, argTypes := ts }, ty, ps, af, g⟩ st K := T1_eq trivial
theorem T1_min {as : Array Operand} {ts : Array TypeId} : T1 P ⟨d, .call { callee := .builtin .min, args := as, argTypes := ts }, ty, ps, af, g⟩ st K = S1 P ⟨d, .call { callee := .builtin .min, args := as, argTypes := ts }, ty, ps, af, g⟩ st K := T1_eq trivial
theorem T1_max {as : Array Operand} {ts : Array TypeId} : T1 P ⟨d, .call { callee := .builtin .max, args := as, argTypes := ts }, ty, ps, af, g⟩ st K = S1 P ⟨d, .call { callee := .builtin .max, args := as, argTypes := ts }, ty, ps, af, g⟩ st K := T1_eq trivial
end
theorem ite_t {α : Type} {a b : α} : (if true = true then a else b) = a := nr rfl
attribute [mvcgen_simp] Wk_eq LArg_eq Ob.alive conv_ar conv_ptr convA_s convA_n convP_s convP_n conv_agg conv_tup conv_fn conv_int conv_bool conv_str conv_nil conv_e0 conv_sl conv_fptr convs_nil convs_cons arrFr_f arrFr_t arrFr_d arrFr_s boxFr_f boxFr_t boxFr_s eq_self AllP_nil AllP_cons idx_z Ob.arr.injEq Ob.box.injEq idx_s List.nodup_cons List.nodup_nil List.mem_cons List.not_mem_nil or_false or_true true_or false_or not_false_eq_true Ob.refs Ob.ren eq_self and_self and_true true_and Refss renss
attribute [method_specs_simp ↓] S1_clear T1_cap S1_cap capVC_arc lenVC_arc sliceVC_3 S1_slice3 sliceVC_arc appVC_arcS appVC_arcI clrVC_arc S1_copy cpyVC_eq clrVC_ar convR_e0 bxX_e0 bnX_nilsl bnX_nilnil nilop_eql nilop_neq convVC_sl convVC_ar finL_ret finL_n frzM_nil frzM_cons frz1_z frz1_s still_box still_arr plc_nil plc_box plc_arr sg_n sg_z sg_s bk_eq upd_c upd_n oren_box oren_arr oren_dead renss_nil renss_cons oB_h oP_h oT_h hB_some hB_none hP_some hT_some gB_u gB_tt gB_ft gB_tf gB_ff RS_nil RSi_nil RSi_cons_n RSi_cons_g RQ_nil RQ_zero RQi_nil RQi_zero RQi_cons_n RQi_cons_g T1_move T1_assign T1_pick T1_alloc T1_box T1_load T1_nilCheck T1_binOp' T1_unOp T1_convert T1_makeFunc T1_makeMap T1_makeSlice T1_slice T1_fieldAddr T1_field T1_indexAddr T1_index T1_extract T1_build T1_bs0 T1_bsS T1_append appVC_e0 ap0VC_e0 ap0VC_nil T1_call' T1_len T1_min T1_max
  rdVC_t rdVC_f ldVC_eq ldX_ptr ldX_eptr ldX_sptr ldX_fptr stX_ptr stX_eptr
  S1_move S1_assign pkX_t pkX_f S1_pick S1_alloc S1_box S1_load S1_store S1_nilCheck bxX_int bxX_bool bxX_str bxX_nil bxX_sl bxX_fptr bxX_fn bxX_agg bxX_ar bxX_ptr
  bnX_add bnX_sub bnX_mul bnX_and bnX_or bnX_xor bnX_eql bnX_neq bnX_lss bnX_leq bnX_gtr bnX_geq bnX_quo bnX_rem bnX_shl bnX_shr bnX_sadd bnX_seql bnX_sneq bnX_beql bnX_bneq
  S1_binOp unVC_not unVC_neg unVC_xor S1_unOp convVC_int S1_convert S1_makeFunc S1_makeMap mksVC_eq S1_makeSlice
  S1_fieldAddr fieldVC_eq S1_field iaddrVC_sl iaddrVC_ar S1_indexAddr indexVC_eq S1_index extrVC_eq S1_extract
  lenVC_str lenVC_sl lenVC_nil lenVC_ar S1_len S1_min S1_max S1_call appVC_ar appVC_nil S1_append
  sliceVC_str sliceVC_sl sliceVC_ar sliceVC_nil S1_slice S1_build S1_buildSlice
  CW_skip CW_ret CW_exit CW_seq CW_block CW_cond CW_region' CW_drawn' CW_loop andThen_n andThen_r andThen_e inBlk_n inBlk_r inBlk_e fin_ret resV_nil resV_tmp resV_cell
attribute [method_specs_simp] elemsV_ar elemsV_arc oneV_arc arV_ar arV_arc S1_clear T1_cap S1_cap capVC_arc lenVC_arc sliceVC_3 S1_slice3 sliceVC_arc appVC_arcS appVC_arcI clrVC_arc S1_copy cpyVC_eq clrVC_ar V.arc.injEq convR_e0 bxX_e0 bnX_nilsl bnX_nilnil nilop_eql nilop_neq convVC_sl convVC_ar finL_ret finL_n frzM_nil frzM_cons frz1_z frz1_s still_box still_arr plc_nil plc_box plc_arr sg_n sg_z sg_s bk_eq upd_c upd_n oren_box oren_arr oren_dead renss_nil renss_cons oB_h oP_h oT_h hB_some hB_none hP_some hT_some gB_u gB_tt gB_ft gB_tf gB_ff RS_nil RSi_nil RSi_cons_n RSi_cons_g RQ_nil RQ_zero RQi_nil RQi_zero RQi_cons_n RQi_cons_g T1_move T1_assign T1_pick T1_alloc T1_box T1_load T1_nilCheck T1_binOp' T1_unOp T1_convert T1_makeFunc T1_makeMap T1_makeSlice T1_slice T1_fieldAddr T1_field T1_indexAddr T1_index T1_extract T1_build T1_bs0 T1_bsS T1_append appVC_e0 ap0VC_e0 ap0VC_nil T1_call' T1_len T1_min T1_max
  rdVC_t rdVC_f ldVC_eq ldX_ptr ldX_eptr ldX_sptr ldX_fptr stX_ptr stX_eptr
  S1_move S1_assign pkX_t pkX_f S1_pick S1_alloc S1_box S1_load S1_store S1_nilCheck bxX_int bxX_bool bxX_str bxX_nil bxX_sl bxX_fptr bxX_fn bxX_agg bxX_ar bxX_ptr
  bnX_add bnX_sub bnX_mul bnX_and bnX_or bnX_xor bnX_eql bnX_neq bnX_lss bnX_leq bnX_gtr bnX_geq bnX_quo bnX_rem bnX_shl bnX_shr bnX_sadd bnX_seql bnX_sneq bnX_beql bnX_bneq
  S1_binOp unVC_not unVC_neg unVC_xor S1_unOp convVC_int S1_convert S1_makeFunc S1_makeMap mksVC_eq S1_makeSlice
  S1_fieldAddr fieldVC_eq S1_field iaddrVC_sl iaddrVC_ar S1_indexAddr indexVC_eq S1_index extrVC_eq S1_extract
  lenVC_str lenVC_sl lenVC_nil lenVC_ar S1_len S1_min S1_max S1_call appVC_ar appVC_nil S1_append
  sliceVC_str sliceVC_sl sliceVC_ar sliceVC_nil S1_slice S1_build S1_buildSlice
  CW_skip CW_ret CW_exit CW_seq CW_block CW_cond CW_region' CW_drawn' CW_loop andThen_n andThen_r andThen_e inBlk_n inBlk_r inBlk_e fin_ret resV_nil resV_tmp resV_cell
  isBl_b r8_set0 r8_get0 r8_set1 r8_get1 r8_set2 r8_get2 r8_set3 r8_get3 r8_set4 r8_get4 r8_set5 r8_get5 r8_set6 r8_get6 r8_set7 r8_get7 r8_setn r8_getn mk8_r mk8_0 mk8_1 mk8_2 mk8_3 mk8_4 mk8_5 mk8_6 mk8_7 wk1_junk wk1_v wkT_r8 nrm_u gset_eq gsV_b gsV_u nrm_some nrm_bool RS_cons_n RS_cons_g RQ_cons_n RQ_cons_g  quietN pkX_b boxAt_z boxAt_s boxLv_z boxLv_s arrAt_z arrAt_s arrLv_z arrLv_s oneV_ar oneV_ptr oneV_eptr elemsV_ar oneV elemsV szV
  storeVC_eq over_z over_s cellsV_agg cellsV V.notNil faddrVC_eq V.step mmX_eq srcV bnd partsV fillG placeS rowV inBlk_o
  ite_true ite_false putT_some putT_none ev_tmp ev_const ev_func ofVal_int ofVal_bool ofVal_str ofVal_nil ofVal_agg ofVal1_int ofVal1_bool ofVal1_str ofVal1_nil
  dsts_mk List.map_cons List.map_nil List.set_cons_zero List.set_cons_succ List.getD_cons_zero List.getD_cons_succ List.length_cons List.length_nil
  List.cons_append List.nil_append List.append_nil List.drop_zero List.drop_succ_cons List.take_zero List.take_succ_cons List.drop_nil List.take_nil
  List.getElem?_map List.getElem?_cons_zero List.getElem?_cons_succ List.all_cons List.all_nil Bool.and_true Bool.true_and Option.isSome_some Option.map_some
  List.replicate_succ List.replicate_zero List.length_replicate List.length_map List.length_append
  and_true true_and and_self Int.toNat_natCast Nat.zero_add Nat.add_zero Bool.not_true Bool.not_false
  V.int.injEq V.bool.injEq V.str.injEq V.sl.injEq V.ar.injEq V.ptr.injEq V.agg.injEq List.cons.injEq Int.natCast_add Int.cast_ofNat_Int ne_eq not_false_eq_true
  wkT_nil wkT_junk wkT_cons Wk_nil pad V.ren rens packV_one packV_two convR_ar convR_ptr convR_agg convR_tup convR_fn convR_int convR_bool convR_str convR_nil convR_sl convR_fptr convRs_nil convRs_cons Ref Refs
end Go.Pm
