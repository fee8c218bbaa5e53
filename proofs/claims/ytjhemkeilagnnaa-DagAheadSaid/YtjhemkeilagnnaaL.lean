/- Laws of the steps, one for each form: what simp walks by. -/
import Derived.Test.YtjhemkeilagnnaaU
namespace Go.Proofs.Ytjhemkeilagnnaa.Mir
open Go Go.RowKit
set_option linter.unusedVariables false

theorem wpS_app_eq {P : Program} : ∀ (l1 l2 : List SI) (s : St) (K : St → Prop), wpS P (l1 ++ l2) s K = wpS P l1 s fun s' => wpS P l2 s' K
  | [], l2, s, K => rfl
  | i :: l1, l2, s, K => by
    simp only [List.cons_append, wpS, wpS_app_eq l1 l2]
theorem wpS_app {P : Program} {l1 l2 : List SI} {s : St} {K : St → Prop} (h : ∀ K' : St → Prop, (∀ s', wpS P l2 s' K → K' s') → wpS P l1 s K') : wpS P (l1 ++ l2) s K := by
  rw [wpS_app_eq]
  exact h _ fun _ h => h
theorem W_mv {P : Program} {ts : List D} {H : List Row} {K : D → List Row → Prop} (x : SV) : stepS P ts H (.mv x) K = (K (x.ev ts) H) := id rfl
theorem W_pick {P : Program} {ts : List D} {H : List Row} {K : D → List Row → Prop} (c a b : SV) : stepS P ts H (.pick c a b) K = (pickS (c.ev ts) (K (a.ev ts) H) (K (b.ev ts) H)) := id rfl
theorem W_alloc {P : Program} {ts : List D} {H : List Row} {K : D → List Row → Prop} (T : TypeId) (z : List D) : stepS P ts H (.alloc T z) K = (K (.pt H.length 0) (H ++ [.box T z])) := id rfl
theorem W_box {P : Program} {ts : List D} {H : List Row} {K : D → List Row → Prop} (T : TypeId) (x : SV) : stepS P ts H (.box T x) K = (bind' (boxD (x.ev ts)) fun cs => K (.pt H.length 0) (H ++ [.box T cs])) := id rfl
theorem W_load1 {P : Program} {ts : List D} {H : List Row} {K : D → List Row → Prop} (a : SV) : stepS P ts H (.load1 a) K = (bind' (load1 H (a.ev ts)) fun d => K d H) := id rfl
theorem W_loadA {P : Program} {ts : List D} {H : List Row} {K : D → List Row → Prop} (n : Nat) (a : SV) : stepS P ts H (.loadA n a) K = (bind' (loadA H n (a.ev ts)) fun d => K d H) := id rfl
theorem W_store {P : Program} {ts : List D} {H : List Row} {K : D → List Row → Prop} (n : Nat) (a x : SV) : stepS P ts H (.store n a x) K = (bind' (storeS P H n (a.ev ts) (x.ev ts)) fun H' => K D.undef H') := id rfl
theorem W_nilc {P : Program} {ts : List D} {H : List Row} {K : D → List Row → Prop} (x : SV) : stepS P ts H (.nilc x) K = (bind' (nilcD (x.ev ts)) fun d => K d H) := id rfl
theorem W_off {P : Program} {ts : List D} {H : List Row} {K : D → List Row → Prop} (o : Nat) (a : SV) : stepS P ts H (.off o a) K = (bind' (offD o (a.ev ts)) fun d => K d H) := id rfl
theorem W_fld1 {P : Program} {ts : List D} {H : List Row} {K : D → List Row → Prop} (o : Nat) (x : SV) : stepS P ts H (.fld1 o x) K = (bind' (fld1 o (x.ev ts)) fun d => K d H) := id rfl
theorem W_fldA {P : Program} {ts : List D} {H : List Row} {K : D → List Row → Prop} (o n : Nat) (x : SV) : stepS P ts H (.fldA o n x) K = (bind' (fldA o n (x.ev ts)) fun d => K d H) := id rfl
theorem W_idx {P : Program} {ts : List D} {H : List Row} {K : D → List Row → Prop} (sz : Nat) (x i : SV) : stepS P ts H (.idx sz x i) K = (idxS sz (x.ev ts) (i.ev ts) fun d => K d H) := id rfl
theorem W_arr {P : Program} {ts : List D} {H : List Row} {K : D → List Row → Prop} (sz n : Nat) (x i : SV) : stepS P ts H (.arr sz n x i) K = (arrS sz n (x.ev ts) (i.ev ts) fun d => K d H) := id rfl
theorem W_ext {P : Program} {ts : List D} {H : List Row} {K : D → List Row → Prop} (i : Nat) (x : SV) : stepS P ts H (.ext i x) K = (bind' (extD i (x.ev ts)) fun d => K d H) := id rfl
theorem W_bin {P : Program} {ts : List D} {H : List Row} {K : D → List Row → Prop} (op : BinOp) (x y : SV) : stepS P ts H (.bin op x y) K = (binS op (x.ev ts) (y.ev ts) fun d => K d H) := id rfl
theorem W_binb {P : Program} {ts : List D} {H : List Row} {K : D → List Row → Prop} (op : BinOp) (x y : SV) : stepS P ts H (.binb op x y) K = (binbS op (x.ev ts) (y.ev ts) fun d => K d H) := id rfl
theorem W_nilq {P : Program} {ts : List D} {H : List Row} {K : D → List Row → Prop} (eq : Bool) (k : Nat) (x y : SV) : stepS P ts H (.nilq eq k x y) K = (nilqS k (x.ev ts) (y.ev ts) fun b => K (D.bool (if eq then b else !b)) H) := id rfl
theorem W_unot {P : Program} {ts : List D} {H : List Row} {K : D → List Row → Prop} (x : SV) : stepS P ts H (.unot x) K = (bind' (notS (x.ev ts)) fun d => K d H) := id rfl
theorem W_fn {P : Program} {ts : List D} {H : List Row} {K : D → List Row → Prop} (f : FuncId) (caps : List SV) : stepS P ts H (.fn f caps) K = (K (.fn f (caps.map (SV.ev ts))) H) := id rfl
theorem W_mkmap {P : Program} {ts : List D} {H : List Row} {K : D → List Row → Prop}  : stepS P ts H (.mkmap) K = (K (.mp H.length) (H ++ [.map []])) := id rfl
theorem W_mkslice {P : Program} {ts : List D} {H : List Row} {K : D → List Row → Prop} (T : TypeId) (sz b : Nat) (z : List F) (l c : SV) : stepS P ts H (.mkslice T sz b z l c) K = (bind' (intOf? (l.ev ts)) fun a => bind' (intOf? (c.ev ts)) fun c => (0 ≤ a ∧ a ≤ c ∧ b * c ≤ 140737488355328 ∧ c.toNat * sz ≤ 16777216) ∧ K (.sl H.length 0 a.toNat) (H ++ [.data T ((List.range (a.toNat * sz)).map fun j => z.getD (j % sz) (.v Go.undef))])) := id rfl
theorem W_bld {P : Program} {ts : List D} {H : List Row} {K : D → List Row → Prop} (z : List D) (parts : List (Nat × Nat × SV)) : stepS P ts H (.bld z parts) K = (bind' (fillS z (parts.map fun p => (p.1, p.2.1, p.2.2.ev ts))) fun ds => K (.ag ds) H) := id rfl
theorem W_bsl {P : Program} {ts : List D} {H : List Row} {K : D → List Row → Prop} (T : TypeId) (sz len : Nat) (z : List D) (parts : List (Nat × SV)) : stepS P ts H (.bsl T sz len z parts) K = (bind' (fillS z (parts.map fun p => (p.1, sz, p.2.ev ts))) fun ds => bind' (freezeAll P H ds) fun xu => K (.sl H.length 0 len) (applyUpd H xu.2 ++ [.data T xu.1])) := id rfl
theorem W_app {P : Program} {ts : List D} {H : List Row} {K : D → List Row → Prop} (T : TypeId) (sz b : Nat) (s x : SV) : stepS P ts H (.app T sz b s x) K = (appS H T sz b (s.ev ts) (x.ev ts) K) := id rfl
theorem W_slen {P : Program} {ts : List D} {H : List Row} {K : D → List Row → Prop} (x : SV) : stepS P ts H (.slen x) K = (bind' (slcS (x.ev ts)) fun n => K (D.int n) H) := id rfl
theorem W_mlen {P : Program} {ts : List D} {H : List Row} {K : D → List Row → Prop} (x : SV) : stepS P ts H (.mlen x) K = (bind' (mapEs H (x.ev ts)) fun es => K (D.int es.length) H) := id rfl
theorem W_conv {P : Program} {ts : List D} {H : List Row} {K : D → List Row → Prop} (k : IntKind) (x : SV) : stepS P ts H (.conv k x) K = (bind' (convS k (x.ev ts)) fun d => K d H) := id rfl
theorem W_s2b {P : Program} {ts : List D} {H : List Row} {K : D → List Row → Prop} (x : SV) : stepS P ts H (.s2b x) K = (bind' (strOf? (x.ev ts)) fun s => s.size ≤ most ∧ K (.f (.s (s.data.toList.map fun b => .v (.int .u8 b.toNat)) s.size)) H) := id rfl
theorem W_b2s {P : Program} {ts : List D} {H : List Row} {K : D → List Row → Prop} (x : SV) : stepS P ts H (.b2s x) K = (bind' (elemsS H 1 (x.ev ts)) fun p => bind' (bytesOf? (p.2.map .f)) fun l => p.2.length = p.1 ∧ K (.f (.v (.string ⟨l.toArray⟩))) H) := id rfl
theorem W_strlen {P : Program} {ts : List D} {H : List Row} {K : D → List Row → Prop} (x : SV) : stepS P ts H (.strlen x) K = (bind' (strOf? (x.ev ts)) fun s => K (D.int s.size) H) := id rfl
theorem W_sidx {P : Program} {ts : List D} {H : List Row} {K : D → List Row → Prop} (x i : SV) : stepS P ts H (.sidx x i) K = (bind' (strOf? (x.ev ts)) fun s => bind' (intOf? (i.ev ts)) fun i => bind' (if 0 ≤ i then s.data.toList[i.toNat]? else none) fun b => K (.f (.v (.int .u8 b.toNat))) H) := id rfl
theorem W_ssub {P : Program} {ts : List D} {H : List Row} {K : D → List Row → Prop} (x : SV) (lo hi : Option SV) : stepS P ts H (.ssub x lo hi) K = (bind' (ssubS (x.ev ts) (lo.map (SV.ev ts)) (hi.map (SV.ev ts))) fun d => K d H) := id rfl
theorem W_look {P : Program} {ts : List D} {H : List Row} {K : D → List Row → Prop} (ok : Bool) (K0 : TypeId) (z : D) (m k : SV) : stepS P ts H (.look ok K0 z m k) K = (bind' (lookS P H ok K0 z (m.ev ts) (k.ev ts)) fun d => K d H) := id rfl
theorem W_mput {P : Program} {ts : List D} {H : List Row} {K : D → List Row → Prop} (K0 : TypeId) (m k x : SV) : stepS P ts H (.mput K0 m k x) K = (bind' (mputS P H K0 (m.ev ts) (k.ev ts) (x.ev ts)) fun H' => K D.undef H') := id rfl
theorem W_mdel {P : Program} {ts : List D} {H : List Row} {K : D → List Row → Prop} (K0 : TypeId) (m k : SV) : stepS P ts H (.mdel K0 m k) K = (bind' (mdelS P H K0 (m.ev ts) (k.ev ts)) fun H' => K (.tp []) H') := id rfl
theorem W_mm {P : Program} {ts : List D} {H : List Row} {K : D → List Row → Prop} (mx : Bool) (x y : SV) : stepS P ts H (.mm mx x y) K = (bind' (intOf? (x.ev ts)) fun a => bind' (intOf? (y.ev ts)) fun b => K (D.int (if mx then max a b else min a b)) H) := id rfl
theorem W_call {P : Program} {ts : List D} {H : List Row} {K : D → List Row → Prop} (f : SV) (args : List SV) : stepS P ts H (.call f args) K = (callW P (f.ev ts) (args.map (SV.ev ts)) H K) := id rfl
theorem W_sub0 {P : Program} {ts : List D} {H : List Row} {K : D → List Row → Prop} (sz : Nat) (E : TypeId) (x : SV) : stepS P ts H (.sub sz E x none none none) K = (bind' (slcS (x.ev ts)) fun n => (0 ≤ (0:Int) ∧ (0:Int) ≤ n ∧ (n:Int) ≤ n) ∧ bind' (subS H sz E (x.ev ts) (0:Int).toNat (n:Int).toNat) fun d => K d H) := id rfl
theorem W_subl {P : Program} {ts : List D} {H : List Row} {K : D → List Row → Prop} (sz : Nat) (E : TypeId) (x l : SV) : stepS P ts H (.sub sz E x (some l) none none) K = (bind' (slcS (x.ev ts)) fun n => bind' (intOf? (l.ev ts)) fun l => (0 ≤ l ∧ l ≤ n ∧ (n:Int) ≤ n) ∧ bind' (subS H sz E (x.ev ts) l.toNat (n:Int).toNat) fun d => K d H) := id rfl
theorem W_subh {P : Program} {ts : List D} {H : List Row} {K : D → List Row → Prop} (sz : Nat) (E : TypeId) (x h : SV) : stepS P ts H (.sub sz E x none (some h) none) K = (bind' (slcS (x.ev ts)) fun n => bind' (intOf? (h.ev ts)) fun h => (0 ≤ (0:Int) ∧ 0 ≤ h ∧ h ≤ n) ∧ bind' (subS H sz E (x.ev ts) (0:Int).toNat h.toNat) fun d => K d H) := id rfl
theorem W_sublh {P : Program} {ts : List D} {H : List Row} {K : D → List Row → Prop} (sz : Nat) (E : TypeId) (x l h : SV) : stepS P ts H (.sub sz E x (some l) (some h) none) K = (bind' (slcS (x.ev ts)) fun n => bind' (intOf? (l.ev ts)) fun l => bind' (intOf? (h.ev ts)) fun h => (0 ≤ l ∧ l ≤ h ∧ h ≤ n) ∧ bind' (subS H sz E (x.ev ts) l.toNat h.toNat) fun d => K d H) := id rfl
theorem W_subm {P : Program} {ts : List D} {H : List Row} {K : D → List Row → Prop} (sz : Nat) (E : TypeId) (x l h m : SV) : stepS P ts H (.sub sz E x (some l) (some h) (some m)) K = (bind' (slcS (x.ev ts)) fun n => bind' (intOf? (l.ev ts)) fun l => bind' (intOf? (h.ev ts)) fun h => (0 ≤ l ∧ l ≤ h ∧ h ≤ n) ∧ (intOf? (m.ev ts) = some l ∧ l = h ∧ (some h).isSome = true) ∧ K (mxS (x.ev ts)) H) := id rfl
theorem W_subm0 {P : Program} {ts : List D} {H : List Row} {K : D → List Row → Prop} (sz : Nat) (E : TypeId) (x h m : SV) : stepS P ts H (.sub sz E x none (some h) (some m)) K = (bind' (slcS (x.ev ts)) fun n => bind' (intOf? (h.ev ts)) fun h => (0 ≤ (0:Int) ∧ 0 ≤ h ∧ h ≤ n) ∧ (intOf? (m.ev ts) = some 0 ∧ (0:Int) = h ∧ (some h).isSome = true) ∧ K (mxS (x.ev ts)) H) := id rfl
theorem ev_t {ts : List D} {n : Nat} : (SV.t n).ev ts = ts.getD n D.undef := id rfl
theorem ev_c {ts : List D} {d : D} : (SV.c d).ev ts = d := id rfl
theorem boxD_f {x : F} : boxD (.f x) = some ([.f x]) := id rfl
theorem okCell_f {x : F} : okCell (.f x) = true := id rfl
theorem cells_f {x : F} : (D.f x).cells = [.f x] := id rfl
theorem boxD_sl {r o n : Nat} : boxD (.sl r o n) = some ([.sl r o n]) := id rfl
theorem okCell_sl {r o n : Nat} : okCell (.sl r o n) = true := id rfl
theorem cells_sl {r o n : Nat} : (D.sl r o n).cells = [.sl r o n] := id rfl
theorem boxD_pt {r o : Nat} : boxD (.pt r o) = some ([.pt r o]) := id rfl
theorem okCell_pt {r o : Nat} : okCell (.pt r o) = true := id rfl
theorem cells_pt {r o : Nat} : (D.pt r o).cells = [.pt r o] := id rfl
theorem boxD_mp {r : Nat} : boxD (.mp r) = some ([.mp r]) := id rfl
theorem okCell_mp {r : Nat} : okCell (.mp r) = true := id rfl
theorem cells_mp {r : Nat} : (D.mp r).cells = [.mp r] := id rfl
theorem boxD_rf {xs : List F} : boxD (.rf xs) = some ([.rf xs]) := id rfl
theorem okCell_rf {xs : List F} : okCell (.rf xs) = true := id rfl
theorem cells_rf {xs : List F} : (D.rf xs).cells = [.rf xs] := id rfl
theorem boxD_ag {ds : List D} : boxD (.ag ds) = some (ds) := id rfl
theorem okCell_ag {ds : List D} : okCell (.ag ds) = true := id rfl
theorem cells_ag {ds : List D} : (D.ag ds).cells = ds := id rfl
theorem boxD_fn {f : FuncId} {ds : List D} : boxD (.fn f ds) = some ([.fn f ds]) := id rfl
theorem okCell_fn {f : FuncId} {ds : List D} : okCell (.fn f ds) = true := id rfl
theorem cells_fn {f : FuncId} {ds : List D} : (D.fn f ds).cells = [.fn f ds] := id rfl
def load1R (o : Option Row) (off : Nat) : Option D := match o with
  | some row => match row.cells with
    | some xs => xs[off]?
    | none => none
  | none => none
theorem load1_pt {H : List Row} {r off : Nat} : load1 H (.pt r off) = load1R H[r]? off := id rfl
theorem load1_rf {H : List Row} {xs : List F} : load1 H (.rf xs) = (xs[0]?).map .f := id rfl
theorem load1R_box {T : TypeId} {ds : List D} {off : Nat} : load1R (some (.box T ds)) off = ds[off]? := id rfl
theorem load1R_data {T : TypeId} {xs : List F} {off : Nat} : load1R (some (.data T xs)) off = (xs[off]?).map .f := by simp [load1R, Row.cells]
theorem load1R_froz {T : TypeId} {xs : List F} {off : Nat} : load1R (some (.froz T xs)) off = (xs[off]?).map .f := by simp [load1R, Row.cells]
def loadAR (n : Nat) (o : Option Row) (off : Nat) : Option D := match o with
  | some row => match row.cells with
    | some xs => if off + n ≤ xs.length then some (.ag ((xs.drop off).take n)) else none
    | none => none
  | none => none
theorem loadA_pt {H : List Row} {n r off : Nat} : loadA H n (.pt r off) = loadAR n H[r]? off := id rfl
theorem loadA_rf {H : List Row} {n : Nat} {xs : List F} : loadA H n (.rf xs) = if n ≤ xs.length then some (.ag ((xs.map .f).take n)) else none := id rfl
theorem loadAR_box {n : Nat} {T : TypeId} {ds : List D} {off : Nat} : loadAR n (some (.box T ds)) off = if off + n ≤ ds.length then some (.ag ((ds.drop off).take n)) else none := id rfl
theorem loadAR_data {n : Nat} {T : TypeId} {xs : List F} {off : Nat} : loadAR n (some (.data T xs)) off = if off + n ≤ xs.length then some (.ag (((xs.drop off).take n).map .f)) else none := by simp [loadAR, Row.cells, List.map_take, List.map_drop]
theorem loadAR_froz {n : Nat} {T : TypeId} {xs : List F} {off : Nat} : loadAR n (some (.froz T xs)) off = if off + n ≤ xs.length then some (.ag (((xs.drop off).take n).map .f)) else none := by simp [loadAR, Row.cells, List.map_take, List.map_drop]
theorem offD_pt {o r off : Nat} : offD o (.pt r off) = some (.pt r (off + o)) := id rfl
theorem offD_rf {o : Nat} {xs : List F} : offD o (.rf xs) = some (.rf (xs.drop o)) := id rfl
theorem fld1_ag {o : Nat} {ds : List D} : fld1 o (.ag ds) = ds[o]? := id rfl
theorem fldA_ag {o n : Nat} {ds : List D} : fldA o n (.ag ds) = if o + n ≤ ds.length then some (.ag ((ds.drop o).take n)) else none := id rfl
theorem nilcD_pt {r o : Nat} : nilcD (.pt r o) = some (.pt r o) := id rfl
theorem nilcD_rf {xs : List F} : nilcD (.rf xs) = some (.rf xs) := id rfl
theorem nilcD_fn {f : FuncId} {cs : List D} : nilcD (.fn f cs) = some (.fn f cs) := id rfl
theorem extD_tp {i : Nat} {ds : List D} : extD i (.tp ds) = ds[i]? := id rfl
def storeR (P : Program) (H : List Row) (n r off : Nat) (x : D) (o : Option Row) : Option (List Row) := match o with
  | some (.box U xs) => if okCell x = true ∧ x.cells.length = n ∧ off + n ≤ xs.length then some (H.set r (.box U (putL off x.cells xs))) else none
  | some (.data U xs) => if okCell x = true ∧ x.cells.length = n ∧ off + n ≤ xs.length then
      match freezeAll P H x.cells with
      | some (ys, us) => match (applyUpd H us)[r]? with
        | some (.data U ws) => some ((applyUpd H us).set r (.data U (splice ws off ys)))
        | _ => none
      | none => none
    else none
  | _ => none
theorem splice_one {α : Type} {xs : List α} {off : Nat} {x : α} (h : off < xs.length) : splice xs off [x] = xs.set off x := by
  rw [List.set_eq_take_append_cons_drop, if_pos h]
  simp [splice]
theorem storeS_pt {P : Program} {H : List Row} {n r off : Nat} {x : D} : storeS P H n (.pt r off) x = storeR P H n r off x H[r]? := id rfl
theorem storeR_box {P : Program} {H : List Row} {n r off : Nat} {x : D} {U : TypeId} {xs : List D} : storeR P H n r off x (some (.box U xs)) = if okCell x = true ∧ x.cells.length = n ∧ off + n ≤ xs.length then some (H.set r (.box U (putL off x.cells xs))) else none := id rfl
theorem storeR_f {P : Program} {H : List Row} {r off : Nat} {x : F} {U : TypeId} {xs : List F} (h : H[r]? = some (.data U xs)) : storeR P H 1 r off (.f x) (some (.data U xs)) = if off + 1 ≤ xs.length then some (H.set r (.data U (xs.set off x))) else none := by
  unfold storeR
  simp only [okCell, D.cells, freezeAll, freeze1, applyUpd, List.append_nil, List.length_cons, List.length_nil, h, true_and, Nat.reduceAdd]
  split
  · rw [splice_one (by omega)]
  · rfl
theorem putL_nil0 {α : Type} {cs : List α} : putL 0 [] cs = cs := by cases cs <;> rfl
theorem putL_cons0 {α : Type} {y c : α} {ys cs : List α} : putL 0 (y :: ys) (c :: cs) = y :: putL 0 ys cs := id rfl
theorem putL_succ {α : Type} {n : Nat} {c : α} {ys cs : List α} : putL (n + 1) ys (c :: cs) = c :: putL n ys cs := id rfl
theorem binS_int {op : BinOp} {k k2 : IntKind} {a b : Int} {K : D → Prop} : binS op (.f (.v (.int k a))) (.f (.v (.int k2 b))) K = (k = k2 ∧ intS op k a b K) := id rfl
theorem binS_str {op : BinOp} {a b : ByteArray} {K : D → Prop} : binS op (.f (.v (.string a))) (.f (.v (.string b))) K = strS op a b K := id rfl
theorem binbS_b {op : BinOp} {a b : Bool} {K : D → Prop} : binbS op (.f (.v (.bool a))) (.f (.v (.bool b))) K = boolS op a b K := id rfl
theorem intS_add {k : IntKind} {a b : Int} {K : D → Prop} : intS .add k a b K = (K (.f (.v (.int k (k.wrap (a + b)))))) := id rfl
theorem intS_sub {k : IntKind} {a b : Int} {K : D → Prop} : intS .sub k a b K = (K (.f (.v (.int k (k.wrap (a - b)))))) := id rfl
theorem intS_mul {k : IntKind} {a b : Int} {K : D → Prop} : intS .mul k a b K = (K (.f (.v (.int k (k.wrap (a * b)))))) := id rfl
theorem intS_quo {k : IntKind} {a b : Int} {K : D → Prop} : intS .quo k a b K = (b ≠ 0 ∧ K (.f (.v (.int k (k.wrap (a.tdiv b)))))) := id rfl
theorem intS_rem {k : IntKind} {a b : Int} {K : D → Prop} : intS .rem k a b K = (b ≠ 0 ∧ K (.f (.v (.int k (a.tmod b))))) := id rfl
theorem intS_eql {k : IntKind} {a b : Int} {K : D → Prop} : intS .eql k a b K = (Two (a = b) (K (.f (.v (.bool true)))) (K (.f (.v (.bool false))))) := id rfl
theorem intS_neq {k : IntKind} {a b : Int} {K : D → Prop} : intS .neq k a b K = (Two (a = b) (K (.f (.v (.bool false)))) (K (.f (.v (.bool true))))) := id rfl
theorem intS_lss {k : IntKind} {a b : Int} {K : D → Prop} : intS .lss k a b K = (Two (a < b) (K (.f (.v (.bool true)))) (K (.f (.v (.bool false))))) := id rfl
theorem intS_leq {k : IntKind} {a b : Int} {K : D → Prop} : intS .leq k a b K = (Two (a ≤ b) (K (.f (.v (.bool true)))) (K (.f (.v (.bool false))))) := id rfl
theorem intS_gtr {k : IntKind} {a b : Int} {K : D → Prop} : intS .gtr k a b K = (Two (b < a) (K (.f (.v (.bool true)))) (K (.f (.v (.bool false))))) := id rfl
theorem intS_geq {k : IntKind} {a b : Int} {K : D → Prop} : intS .geq k a b K = (Two (b ≤ a) (K (.f (.v (.bool true)))) (K (.f (.v (.bool false))))) := id rfl
theorem strS_add {a b : ByteArray} {K : D → Prop} : strS .add a b K = (a.size + b.size ≤ 9223372036854775807 ∧ K (.f (.v (.string (a ++ b))))) := id rfl
theorem strS_eql {a b : ByteArray} {K : D → Prop} : strS .eql a b K = (Two (a = b) (K (.f (.v (.bool true)))) (K (.f (.v (.bool false))))) := id rfl
theorem strS_neq {a b : ByteArray} {K : D → Prop} : strS .neq a b K = (Two (a = b) (K (.f (.v (.bool false)))) (K (.f (.v (.bool true))))) := id rfl
theorem strS_lss {a b : ByteArray} {K : D → Prop} : strS .lss a b K = (Two (Op.bytesLess a.toList b.toList = true) (K (.f (.v (.bool true)))) (K (.f (.v (.bool false))))) := id rfl
theorem strS_gtr {a b : ByteArray} {K : D → Prop} : strS .gtr a b K = (Two (Op.bytesLess b.toList a.toList = true) (K (.f (.v (.bool true)))) (K (.f (.v (.bool false))))) := id rfl
theorem strS_leq {a b : ByteArray} {K : D → Prop} : strS .leq a b K = (Two (Op.bytesLess b.toList a.toList = true) (K (.f (.v (.bool false)))) (K (.f (.v (.bool true))))) := id rfl
theorem strS_geq {a b : ByteArray} {K : D → Prop} : strS .geq a b K = (Two (Op.bytesLess a.toList b.toList = true) (K (.f (.v (.bool false)))) (K (.f (.v (.bool true))))) := id rfl
theorem boolS_eql {a b : Bool} {K : D → Prop} : boolS .eql a b K = K (.f (.v (.bool (a == b)))) := id rfl
theorem boolS_neq {a b : Bool} {K : D → Prop} : boolS .neq a b K = K (.f (.v (.bool (!(a == b))))) := id rfl
theorem idxS_sl {sz r off n : Nat} {k : IntKind} {i : Int} {K : D → Prop} : idxS sz (.sl r off n) (.f (.v (.int k i))) K = ((0 ≤ i ∧ i < n) ∧ K (.pt r (off + i.toNat * sz))) := id rfl
theorem idxS_s {sz n : Nat} {xs : List F} {k : IntKind} {i : Int} {K : D → Prop} : idxS sz (.f (.s xs n)) (.f (.v (.int k i))) K = ((0 ≤ i ∧ i < n) ∧ K (.rf (xs.drop (i.toNat * sz)))) := id rfl
theorem arrS_pt {sz n r off : Nat} {k : IntKind} {i : Int} {K : D → Prop} : arrS sz n (.pt r off) (.f (.v (.int k i))) K = ((0 ≤ i ∧ i < n) ∧ K (.pt r (off + i.toNat * sz))) := id rfl
theorem pickS_t {p q : Prop} : pickS (.f (.v (.bool true))) p q = p := Bsel_true
theorem pickS_f {p q : Prop} : pickS (.f (.v (.bool false))) p q = q := Bsel_false
theorem pickS_b {b : Bool} {p q : Prop} : pickS (.f (.v (.bool b))) p q = Bsel b p q := id rfl
theorem notS_b {b : Bool} : notS (.f (.v (.bool b))) = some (.f (.v (.bool (!b)))) := id rfl
theorem convS_i {k k2 : IntKind} {n : Int} : convS k (.f (.v (.int k2 n))) = some (.f (.v (.int k (k.wrap n)))) := id rfl
theorem intOf_i {n : Int} : intOf? (.f (.v (.int .i64 n))) = some n := id rfl
theorem strOf_s {s : ByteArray} : strOf? (.f (.v (.string s))) = some s := id rfl
theorem slcS_sl {r o n : Nat} : slcS (.sl r o n) = some n := id rfl
theorem slcS_s {xs : List F} {n : Nat} : slcS (.f (.s xs n)) = some n := id rfl
theorem slcS_e : slcS (.f .e) = some 0 := id rfl
theorem slcS_nil : slcS (.f (.v (.slice none 0 0))) = some 0 := id rfl
def nilR (k : Nat) (p q : Option (Nat × Bool)) : Option Bool := match p, q with
  | some (i, a), some (j, b) => if k = i ∧ k = j ∧ (a = true ∨ b = true) then some (a && b) else none
  | _, _ => none
theorem nilS_R {k : Nat} {x y : D} : nilS k x y = nilR k (isNil x) (isNil y) := id rfl
theorem nilR_ss {k i j : Nat} {a b : Bool} : nilR k (some (i, a)) (some (j, b)) = if k = i ∧ k = j ∧ (a = true ∨ b = true) then some (a && b) else none := id rfl
theorem isNil_129 : isNil (.f (.v (.slice none 0 0))) = some (0, true) := id rfl
theorem isNil_130 : isNil (.f (.v (.pointer none))) = some (1, true) := id rfl
theorem isNil_131 : isNil (.f (.v (.map none))) = some (2, true) := id rfl
theorem nilq_s {k : Nat} {xs : List F} {n : Nat} {K : Bool → Prop} : nilqS k (.f (.s xs n)) (.f (.v (.slice none 0 0))) K = (k = 0 ∧ (n = 0 → K true) ∧ K false) := id rfl
theorem nilq_133 {k : Nat} {y : D} {K : Bool → Prop} : nilqS k (.f (.v (.slice none 0 0))) y K = bind' (nilS k (.f (.v (.slice none 0 0))) y) K := id rfl
theorem nilq_134 {k : Nat} {y : D} {K : Bool → Prop} : nilqS k (.f (.v (.pointer none))) y K = bind' (nilS k (.f (.v (.pointer none))) y) K := id rfl
theorem nilq_135 {k : Nat} {y : D} {K : Bool → Prop} : nilqS k (.f (.v (.map none))) y K = bind' (nilS k (.f (.v (.map none))) y) K := id rfl
theorem nilq_136 {k : Nat} {y : D} {K : Bool → Prop} : nilqS k (.f .e) y K = bind' (nilS k (.f .e) y) K := id rfl
theorem nilq_137 {r o n : Nat} {k : Nat} {y : D} {K : Bool → Prop} : nilqS k (.sl r o n) y K = bind' (nilS k (.sl r o n) y) K := id rfl
theorem nilq_138 {r o : Nat} {k : Nat} {y : D} {K : Bool → Prop} : nilqS k (.pt r o) y K = bind' (nilS k (.pt r o) y) K := id rfl
theorem nilq_139 {r : Nat} {k : Nat} {y : D} {K : Bool → Prop} : nilqS k (.mp r) y K = bind' (nilS k (.mp r) y) K := id rfl
theorem nilq_140 {xs : List F} {k : Nat} {y : D} {K : Bool → Prop} : nilqS k (.rf xs) y K = bind' (nilS k (.rf xs) y) K := id rfl
theorem isNil_s {xs : List F} {n : Nat} : isNil (.f (.s xs (n + 1))) = some (0, false) := id rfl
theorem isNil_sl {r o n : Nat} : isNil (.sl r o n) = some (0, false) := id rfl
theorem isNil_pt {r o : Nat} : isNil (.pt r o) = some (1, false) := id rfl
theorem isNil_rf {xs : List F} : isNil (.rf xs) = some (1, false) := id rfl
theorem isNil_mp {r : Nat} : isNil (.mp r) = some (2, false) := id rfl
def subR (sz : Nat) (E : TypeId) (r off l h : Nat) (o : Option Row) : Option D := match o with
  | some (.data U _) => if some U = some E then some (.sl r (off + l * sz) (h - l)) else none
  | some (.froz U _) => if some U = some E then some (.sl r (off + l * sz) (h - l)) else none
  | _ => none
theorem subS_sl {H : List Row} {sz : Nat} {E : TypeId} {r off n l h : Nat} : subS H sz E (.sl r off n) l h = subR sz E r off l h H[r]? := by
  unfold subS rowType subR
  dsimp only
  split <;> simp only [*]
  all_goals simp
theorem subR_data {sz : Nat} {E U : TypeId} {r off l h : Nat} {xs : List F} : subR sz E r off l h (some (.data U xs)) = if some U = some E then some (.sl r (off + l * sz) (h - l)) else none := id rfl
theorem subR_froz {sz : Nat} {E U : TypeId} {r off l h : Nat} {xs : List F} : subR sz E r off l h (some (.froz U xs)) = if some U = some E then some (.sl r (off + l * sz) (h - l)) else none := id rfl
theorem subS_s {H : List Row} {sz : Nat} {E : TypeId} {xs : List F} {n l h : Nat} : subS H sz E (.f (.s xs n)) l h = some (.f (.s ((xs.drop (l * sz)).take ((h - l) * sz)) (h - l))) := id rfl
theorem subS_e {H : List Row} {sz : Nat} {E : TypeId} {l h : Nat} : subS H sz E (.f .e) l h = some (.f .e) := id rfl
theorem subS_nil {H : List Row} {sz : Nat} {E : TypeId} {l h : Nat} : subS H sz E (.f (.v (.slice none 0 0))) l h = some (.f (.v (.slice none 0 0))) := id rfl
theorem mxS_nil : mxS (.f (.v (.slice none 0 0))) = .f (.v (.slice none 0 0)) := id rfl
theorem mxS_s {xs : List F} {n : Nat} : mxS (.f (.s xs n)) = .f .e := id rfl
theorem mxS_e : mxS (.f .e) = .f .e := id rfl
theorem mxS_sl {r o n : Nat} : mxS (.sl r o n) = .f .e := id rfl
theorem fillS_nil {cs : List D} : fillS cs [] = some cs := id rfl
theorem fillS_cons {cs : List D} {off size : Nat} {d : D} {rest : List (Nat × Nat × D)} : fillS cs ((off, size, d) :: rest) = if okCell d = true ∧ d.cells.length = size ∧ off + size ≤ cs.length then fillS (putL off d.cells cs) rest else none := id rfl
theorem freeze_nil {P : Program} {H : List Row} : freezeAll P H [] = some ([], []) := id rfl
def freezeR (x : F) (o : Option (List F × List (Nat × Row))) : Option (List F × List (Nat × Row)) := match o with
  | some (xs, us) => some (x :: xs, us)
  | none => none
theorem freeze_f {P : Program} {H : List Row} {x : F} {ds : List D} : freezeAll P H (.f x :: ds) = freezeR x (freezeAll P H ds) := by
  simp only [freezeAll, freeze1, applyUpd, List.nil_append]
  cases freezeAll P H ds <;> rfl
theorem freezeR_s {x : F} {xs : List F} {us : List (Nat × Row)} : freezeR x (some (xs, us)) = some (x :: xs, us) := id rfl
theorem applyUpd_nil {H : List Row} : applyUpd H [] = H := id rfl
theorem fs_nil : fs? [] = some [] := id rfl
theorem fs_cons {x : F} {ds : List D} : fs? (.f x :: ds) = (fs? ds).map (x :: ·) := id rfl
theorem elemsS_nil {H : List Row} {sz : Nat} : elemsS H sz (.f (.v (.slice none 0 0))) = some (0, []) := id rfl
theorem elemsS_e {H : List Row} {sz : Nat} : elemsS H sz (.f .e) = some (0, []) := id rfl
theorem elemsS_s {H : List Row} {sz n : Nat} {xs : List F} : elemsS H sz (.f (.s xs n)) = some (n, xs) := id rfl
def elemsR (sz off n : Nat) (o : Option Row) : Option (Nat × List F) := match o with
  | some (.data _ xs) => if off + n * sz ≤ xs.length then some (n, (xs.drop off).take (n * sz)) else none
  | some (.froz _ xs) => if off + n * sz ≤ xs.length then some (n, (xs.drop off).take (n * sz)) else none
  | some (.box _ ds) => match fs? ds with
    | some xs => if off + n * sz ≤ xs.length then some (n, (xs.drop off).take (n * sz)) else none
    | none => none
  | _ => none
theorem elemsS_sl {H : List Row} {sz r off n : Nat} : elemsS H sz (.sl r off n) = elemsR sz off n H[r]? := id rfl
theorem elemsR_data {sz off n : Nat} {T : TypeId} {xs : List F} : elemsR sz off n (some (.data T xs)) = if off + n * sz ≤ xs.length then some (n, (xs.drop off).take (n * sz)) else none := id rfl
theorem elemsR_froz {sz off n : Nat} {T : TypeId} {xs : List F} : elemsR sz off n (some (.froz T xs)) = if off + n * sz ≤ xs.length then some (n, (xs.drop off).take (n * sz)) else none := id rfl
theorem appS_nil {H : List Row} {T : TypeId} {sz b : Nat} {x : D} {K : D → List Row → Prop} : appS H T sz b (.f (.v (.slice none 0 0))) x K = bind' (elemsS H sz x) fun p => Two (p.1 = 0) (K (.f (.v (.slice none 0 0))) H) (p.2.length = p.1 * sz ∧ p.1 * b ≤ most ∧ p.1 ≤ most ∧ K (.sl H.length 0 p.1) (H ++ [.data T p.2])) := id rfl
theorem appS_e {H : List Row} {T : TypeId} {sz b : Nat} {x : D} {K : D → List Row → Prop} : appS H T sz b (.f .e) x K = bind' (elemsS H sz x) fun p => Two (p.1 = 0) (K (.f .e) H) (p.2.length = p.1 * sz ∧ p.1 * b ≤ most ∧ p.1 ≤ most ∧ K (.sl H.length 0 p.1) (H ++ [.data T p.2])) := id rfl
def appR (H : List Row) (T : TypeId) (sz b r off n m : Nat) (ys : List F) (K : D → List Row → Prop) (o : Option Row) : Prop := match o with
  | some (.data U xs) => U = T ∧ ys.length = m * sz ∧ xs.length = off + n * sz ∧ (n + m) * b ≤ most ∧ n + m ≤ most ∧ K (.sl H.length 0 (n + m)) (H.set r .dead ++ [.data T (xs.drop off ++ ys)])
  | _ => False
theorem appS_sl {H : List Row} {T : TypeId} {sz b : Nat} {x : D} {K : D → List Row → Prop} {r off n : Nat} : appS H T sz b (.sl r off n) x K = bind' (elemsS H sz x) fun p => Two (p.1 = 0) (K (.sl r off n) H) (appR H T sz b r off n p.1 p.2 K H[r]?) := id rfl
theorem appR_data {H : List Row} {T U : TypeId} {sz b r off n m : Nat} {ys xs : List F} {K : D → List Row → Prop} : appR H T sz b r off n m ys K (some (.data U xs)) = (U = T ∧ ys.length = m * sz ∧ xs.length = off + n * sz ∧ (n + m) * b ≤ most ∧ n + m ≤ most ∧ K (.sl H.length 0 (n + m)) (H.set r .dead ++ [.data T (xs.drop off ++ ys)])) := id rfl
theorem mapEs_nil {H : List Row} : mapEs H (.f (.v (.map none))) = some [] := id rfl
def mapER (o : Option Row) : Option (List (Value × D)) := match o with
  | some (.map es) => some es
  | _ => none
theorem mapEs_mp {H : List Row} {r : Nat} : mapEs H (.mp r) = mapER H[r]? := id rfl
theorem mapER_map {es : List (Value × D)} : mapER (some (.map es)) = some es := id rfl
theorem wantV_t {w : Bool} {p q : Prop} {b : Bool} : wantV (some (.f (.v (.bool b)))) w p q = if w then Bsel b p q else Bsel b q p := id rfl
theorem wantV_u {w : Bool} {p q : Prop} {ds : List D} : wantV (some (.tp ds)) w p q = q := id rfl
theorem Dint {n : Int} : D.int n = .f (.v (.int .i64 n)) := id rfl
theorem Dbool {b : Bool} : D.bool b = .f (.v (.bool b)) := id rfl
theorem Dv {x : Value} : D.v x = .f (.v x) := id rfl
theorem Dundef : D.undef = .tp [] := id rfl
theorem ren_nil {N r : Nat} : ren [] N r = N + r := by simp [ren]
theorem renE_f {ρ : Nat → Nat} {x : F} : renE ρ (.f x) = .f x := id rfl
theorem renE_sl {ρ : Nat → Nat} {r o n : Nat} : renE ρ (.sl r o n) = .sl (ρ r) o n := id rfl
theorem renE_pt {ρ : Nat → Nat} {r o : Nat} : renE ρ (.pt r o) = .pt (ρ r) o := id rfl
theorem renE_mp {ρ : Nat → Nat} {r : Nat} : renE ρ (.mp r) = .mp (ρ r) := id rfl
theorem renE_rf {ρ : Nat → Nat} {xs : List F} : renE ρ (.rf xs) = .rf xs := id rfl
theorem renE_ag {ρ : Nat → Nat} {ds : List D} : renE ρ (.ag ds) = .ag (ds.map (renE ρ)) := by simp [renE, renE_go]
theorem renE_tp {ρ : Nat → Nat} {ds : List D} : renE ρ (.tp ds) = .tp (ds.map (renE ρ)) := by simp [renE, renE_go]
theorem renE_fn {ρ : Nat → Nat} {f : FuncId} {ds : List D} : renE ρ (.fn f ds) = .fn f (ds.map (renE ρ)) := by simp [renE, renE_go]
theorem renR_box {ρ : Nat → Nat} {T : TypeId} {ds : List D} : renR ρ (.box T ds) = .box T (ds.map (renE ρ)) := id rfl
theorem renR_data {ρ : Nat → Nat} {T : TypeId} {xs : List F} : renR ρ (.data T xs) = .data T xs := id rfl
theorem renR_froz {ρ : Nat → Nat} {T : TypeId} {xs : List F} : renR ρ (.froz T xs) = .froz T xs := id rfl
theorem renR_map {ρ : Nat → Nat} {es : List (Value × D)} : renR ρ (.map es) = .map es := id rfl
theorem renR_dead {ρ : Nat → Nat} : renR ρ .dead = .dead := id rfl
theorem putRows_nil {ρ : Nat → Nat} {rows H : List Row} : putRows ρ [] rows H = H := by cases rows <;> rfl
theorem putRows_cons {ρ : Nat → Nat} {r : Nat} {ι : List Nat} {row : Row} {rows H : List Row} : putRows ρ (r :: ι) (row :: rows) H = putRows ρ ι rows (H.set r (renR ρ row)) := id rfl
theorem putD_some {ts : List D} {t : Nat} {d : D} : putD! ts (some t) d = ts.set t d := id rfl
theorem putD_none {ts : List D} {d : D} : putD! ts none d = ts := id rfl
theorem range_zero : List.range 0 = [] := id rfl
theorem wpDr_nil {P : Program} {b own : List Nat} {n0 i : Nat} {log : List (List Nat × List Nat)} {ts : List D} {H : List Row} {dr : List Nat} {K : St → Prop} : wpDr P b n0 [] i own log ⟨ts, H, dr⟩ K = K ⟨ts, H, []⟩ := id rfl
/-- One step of a region that draws. -/
def drStep (P : Program) (b own : List Nat) (n0 i : Nat) (log : List (List Nat × List Nat)) (o : SOp) (V : List Nat) (ts : List D) (H : List Row) (next : List Nat → List (List Nat × List Nat) → D → List Row → Prop) : Prop :=
  stepDr P ts (maskV V H) o fun d H' => H' = (effS o.turns V H.length d H').heap (maskV V H) ∧
    Chk (chkS n0 own (b.getD i 0) V (o.vs.map (SV.ev ts)) (maskV V H) (effS o.turns V H.length d H') log) ∧
    next (own ++ (effS o.turns V H.length d H').news.map fun _ => i) (log ++ [(V, (effS o.turns V H.length d H').upd.map (·.1))]) d ((effS o.turns V H.length d H').heap H)
@[congr] theorem drStep_congr {P : Program} {b own own' : List Nat} {n0 i i' : Nat} {log log' : List (List Nat × List Nat)} {o : SOp} {V V' : List Nat} {ts ts' : List D} {H H' : List Row} {next : List Nat → List (List Nat × List Nat) → D → List Row → Prop} (h1 : own = own') (h5 : log = log') (h2 : V = V') (h3 : ts = ts') (h4 : H = H') (h6 : i = i') : drStep P b own n0 i log o V ts H next = drStep P b own' n0 i' log' o V' ts' H' next := by rw [h1, h2, h3, h4, h5, h6]
theorem wpDr_a {P : Program} {b own : List Nat} {n0 i : Nat} {log : List (List Nat × List Nat)} {l : List SI} {ts : List D} {H : List Row} {dr : List Nat} {K : St → Prop} {t : Nat} {o : SOp} : wpDr P b n0 (.a t o :: l) i own log ⟨ts, H, dr⟩ K = drStep P b own n0 i log o (viewS ts H o) ts H fun own1 log1 d H1 => wpDr P b n0 l (i + 1) own1 log1 ⟨ts.set t d, H1, []⟩ K := id rfl
theorem wpDr_n {P : Program} {b own : List Nat} {n0 i : Nat} {log : List (List Nat × List Nat)} {l : List SI} {ts : List D} {H : List Row} {dr : List Nat} {K : St → Prop} {o : SOp} : wpDr P b n0 (.n o :: l) i own log ⟨ts, H, dr⟩ K = drStep P b own n0 i log o (viewS ts H o) ts H fun own1 log1 d H1 => wpDr P b n0 l (i + 1) own1 log1 ⟨ts, H1, []⟩ K := id rfl
theorem wpDr_g {P : Program} {b own : List Nat} {n0 i : Nat} {log : List (List Nat × List Nat)} {l : List SI} {ts : List D} {H : List Row} {dr : List Nat} {K : St → Prop} {d : Option Nat} {t : Nat} {w : Bool} {o : SOp} : wpDr P b n0 (.g d o t w :: l) i own log ⟨ts, H, dr⟩ K = wantV ts[t]? w (drStep P b own n0 i log o (viewS ts H o) ts H fun own1 log1 r H1 => wpDr P b n0 l (i + 1) own1 log1 ⟨putD! ts d r, H1, []⟩ K) (wpDr P b n0 l (i + 1) own (log ++ [([], [])]) ⟨putD! ts d D.undef, H, []⟩ K) := id rfl
theorem drStep_def {P : Program} {b own : List Nat} {n0 i : Nat} {log : List (List Nat × List Nat)} {o : SOp} {V : List Nat} {ts : List D} {H : List Row} {next : List Nat → List (List Nat × List Nat) → D → List Row → Prop} : drStep P b own n0 i log o V ts H next = stepDr P ts (maskV V H) o fun d H1 => H1 = (effS o.turns V H.length d H1).heap (maskV V H) ∧ Chk (chkS n0 own (b.getD i 0) V (o.vs.map (SV.ev ts)) (maskV V H) (effS o.turns V H.length d H1) log) ∧ next (own ++ (effS o.turns V H.length d H1).news.map fun _ => i) (log ++ [(V, (effS o.turns V H.length d H1).upd.map (·.1))]) d ((effS o.turns V H.length d H1).heap H) := id rfl
theorem stepDr_mv {P : Program} {ts : List D} {H : List Row} {K : D → List Row → Prop} (x : SV) : stepDr P ts H (.mv x) K = (K (x.ev ts) H) := id rfl
theorem viewS_mv {ts : List D} {H : List Row} (x : SV) : viewS ts H (.mv x) = [] := id rfl
theorem turns_mv (x : SV) : SOp.turns (.mv x) = false := id rfl
theorem stepDr_pick {P : Program} {ts : List D} {H : List Row} {K : D → List Row → Prop} (c a b : SV) : stepDr P ts H (.pick c a b) K = (pickS (c.ev ts) (K (a.ev ts) H) (K (b.ev ts) H)) := id rfl
theorem viewS_pick {ts : List D} {H : List Row} (c a b : SV) : viewS ts H (.pick c a b) = [] := id rfl
theorem turns_pick (c a b : SV) : SOp.turns (.pick c a b) = false := id rfl
theorem stepDr_alloc {P : Program} {ts : List D} {H : List Row} {K : D → List Row → Prop} (T : TypeId) (z : List D) : stepDr P ts H (.alloc T z) K = (K (.pt H.length 0) (H ++ [.box T z])) := id rfl
theorem viewS_alloc {ts : List D} {H : List Row} (T : TypeId) (z : List D) : viewS ts H (.alloc T z) = [] := id rfl
theorem turns_alloc (T : TypeId) (z : List D) : SOp.turns (.alloc T z) = false := id rfl
theorem stepDr_box {P : Program} {ts : List D} {H : List Row} {K : D → List Row → Prop} (T : TypeId) (x : SV) : stepDr P ts H (.box T x) K = (bind' (boxD (x.ev ts)) fun cs => K (.pt H.length 0) (H ++ [.box T cs])) := id rfl
theorem viewS_box {ts : List D} {H : List Row} (T : TypeId) (x : SV) : viewS ts H (.box T x) = [] := id rfl
theorem turns_box (T : TypeId) (x : SV) : SOp.turns (.box T x) = false := id rfl
theorem stepDr_load1 {P : Program} {ts : List D} {H : List Row} {K : D → List Row → Prop} (a : SV) : stepDr P ts H (.load1 a) K = (bind' (load1 H (a.ev ts)) fun d => K d H) := id rfl
theorem viewS_load1 {ts : List D} {H : List Row} (a : SV) : viewS ts H (.load1 a) = dedN (refsL ([a.ev ts])) := id rfl
theorem turns_load1 (a : SV) : SOp.turns (.load1 a) = false := id rfl
theorem stepDr_loadA {P : Program} {ts : List D} {H : List Row} {K : D → List Row → Prop} (n : Nat) (a : SV) : stepDr P ts H (.loadA n a) K = (bind' (loadA H n (a.ev ts)) fun d => K d H) := id rfl
theorem viewS_loadA {ts : List D} {H : List Row} (n : Nat) (a : SV) : viewS ts H (.loadA n a) = dedN (refsL ([a.ev ts])) := id rfl
theorem turns_loadA (n : Nat) (a : SV) : SOp.turns (.loadA n a) = false := id rfl
theorem stepDr_store {P : Program} {ts : List D} {H : List Row} {K : D → List Row → Prop} (n : Nat) (a x : SV) : stepDr P ts H (.store n a x) K = (bind' (storeS P H n (a.ev ts) (x.ev ts)) fun H' => K D.undef H') := id rfl
theorem viewS_store {ts : List D} {H : List Row} (n : Nat) (a x : SV) : viewS ts H (.store n a x) = dedN (refsL ([a.ev ts, x.ev ts])) := id rfl
theorem turns_store (n : Nat) (a x : SV) : SOp.turns (.store n a x) = true := id rfl
theorem stepDr_nilc {P : Program} {ts : List D} {H : List Row} {K : D → List Row → Prop} (x : SV) : stepDr P ts H (.nilc x) K = (bind' (nilcD (x.ev ts)) fun d => K d H) := id rfl
theorem viewS_nilc {ts : List D} {H : List Row} (x : SV) : viewS ts H (.nilc x) = [] := id rfl
theorem turns_nilc (x : SV) : SOp.turns (.nilc x) = false := id rfl
theorem stepDr_off {P : Program} {ts : List D} {H : List Row} {K : D → List Row → Prop} (o : Nat) (a : SV) : stepDr P ts H (.off o a) K = (bind' (offD o (a.ev ts)) fun d => K d H) := id rfl
theorem viewS_off {ts : List D} {H : List Row} (o : Nat) (a : SV) : viewS ts H (.off o a) = [] := id rfl
theorem turns_off (o : Nat) (a : SV) : SOp.turns (.off o a) = false := id rfl
theorem stepDr_fld1 {P : Program} {ts : List D} {H : List Row} {K : D → List Row → Prop} (o : Nat) (x : SV) : stepDr P ts H (.fld1 o x) K = (bind' (fld1 o (x.ev ts)) fun d => K d H) := id rfl
theorem viewS_fld1 {ts : List D} {H : List Row} (o : Nat) (x : SV) : viewS ts H (.fld1 o x) = [] := id rfl
theorem turns_fld1 (o : Nat) (x : SV) : SOp.turns (.fld1 o x) = false := id rfl
theorem stepDr_fldA {P : Program} {ts : List D} {H : List Row} {K : D → List Row → Prop} (o n : Nat) (x : SV) : stepDr P ts H (.fldA o n x) K = (bind' (fldA o n (x.ev ts)) fun d => K d H) := id rfl
theorem viewS_fldA {ts : List D} {H : List Row} (o n : Nat) (x : SV) : viewS ts H (.fldA o n x) = [] := id rfl
theorem turns_fldA (o n : Nat) (x : SV) : SOp.turns (.fldA o n x) = false := id rfl
theorem stepDr_idx {P : Program} {ts : List D} {H : List Row} {K : D → List Row → Prop} (sz : Nat) (x i : SV) : stepDr P ts H (.idx sz x i) K = (idxS sz (x.ev ts) (i.ev ts) fun d => K d H) := id rfl
theorem viewS_idx {ts : List D} {H : List Row} (sz : Nat) (x i : SV) : viewS ts H (.idx sz x i) = [] := id rfl
theorem turns_idx (sz : Nat) (x i : SV) : SOp.turns (.idx sz x i) = false := id rfl
theorem stepDr_arr {P : Program} {ts : List D} {H : List Row} {K : D → List Row → Prop} (sz n : Nat) (x i : SV) : stepDr P ts H (.arr sz n x i) K = (arrS sz n (x.ev ts) (i.ev ts) fun d => K d H) := id rfl
theorem viewS_arr {ts : List D} {H : List Row} (sz n : Nat) (x i : SV) : viewS ts H (.arr sz n x i) = [] := id rfl
theorem turns_arr (sz n : Nat) (x i : SV) : SOp.turns (.arr sz n x i) = false := id rfl
theorem stepDr_ext {P : Program} {ts : List D} {H : List Row} {K : D → List Row → Prop} (i : Nat) (x : SV) : stepDr P ts H (.ext i x) K = (bind' (extD i (x.ev ts)) fun d => K d H) := id rfl
theorem viewS_ext {ts : List D} {H : List Row} (i : Nat) (x : SV) : viewS ts H (.ext i x) = [] := id rfl
theorem turns_ext (i : Nat) (x : SV) : SOp.turns (.ext i x) = false := id rfl
theorem stepDr_bin {P : Program} {ts : List D} {H : List Row} {K : D → List Row → Prop} (op : BinOp) (x y : SV) : stepDr P ts H (.bin op x y) K = (binS op (x.ev ts) (y.ev ts) fun d => K d H) := id rfl
theorem viewS_bin {ts : List D} {H : List Row} (op : BinOp) (x y : SV) : viewS ts H (.bin op x y) = [] := id rfl
theorem turns_bin (op : BinOp) (x y : SV) : SOp.turns (.bin op x y) = false := id rfl
theorem stepDr_binb {P : Program} {ts : List D} {H : List Row} {K : D → List Row → Prop} (op : BinOp) (x y : SV) : stepDr P ts H (.binb op x y) K = (binbS op (x.ev ts) (y.ev ts) fun d => K d H) := id rfl
theorem viewS_binb {ts : List D} {H : List Row} (op : BinOp) (x y : SV) : viewS ts H (.binb op x y) = [] := id rfl
theorem turns_binb (op : BinOp) (x y : SV) : SOp.turns (.binb op x y) = false := id rfl
theorem stepDr_unot {P : Program} {ts : List D} {H : List Row} {K : D → List Row → Prop} (x : SV) : stepDr P ts H (.unot x) K = (bind' (notS (x.ev ts)) fun d => K d H) := id rfl
theorem viewS_unot {ts : List D} {H : List Row} (x : SV) : viewS ts H (.unot x) = [] := id rfl
theorem turns_unot (x : SV) : SOp.turns (.unot x) = false := id rfl
theorem stepDr_fn {P : Program} {ts : List D} {H : List Row} {K : D → List Row → Prop} (f : FuncId) (caps : List SV) : stepDr P ts H (.fn f caps) K = (K (.fn f (caps.map (SV.ev ts))) H) := id rfl
theorem viewS_fn {ts : List D} {H : List Row} (f : FuncId) (caps : List SV) : viewS ts H (.fn f caps) = [] := id rfl
theorem turns_fn (f : FuncId) (caps : List SV) : SOp.turns (.fn f caps) = false := id rfl
theorem stepDr_mkmap {P : Program} {ts : List D} {H : List Row} {K : D → List Row → Prop}  : stepDr P ts H (.mkmap) K = (K (.mp H.length) (H ++ [.map []])) := id rfl
theorem viewS_mkmap {ts : List D} {H : List Row}  : viewS ts H (.mkmap) = [] := id rfl
theorem turns_mkmap  : SOp.turns (.mkmap) = false := id rfl
theorem stepDr_mkslice {P : Program} {ts : List D} {H : List Row} {K : D → List Row → Prop} (T : TypeId) (sz b : Nat) (z : List F) (l c : SV) : stepDr P ts H (.mkslice T sz b z l c) K = (bind' (intOf? (l.ev ts)) fun a => bind' (intOf? (c.ev ts)) fun c => (0 ≤ a ∧ a ≤ c ∧ b * c ≤ 140737488355328 ∧ c.toNat * sz ≤ 16777216) ∧ K (.sl H.length 0 a.toNat) (H ++ [.data T ((List.range (a.toNat * sz)).map fun j => z.getD (j % sz) (.v Go.undef))])) := id rfl
theorem viewS_mkslice {ts : List D} {H : List Row} (T : TypeId) (sz b : Nat) (z : List F) (l c : SV) : viewS ts H (.mkslice T sz b z l c) = [] := id rfl
theorem turns_mkslice (T : TypeId) (sz b : Nat) (z : List F) (l c : SV) : SOp.turns (.mkslice T sz b z l c) = false := id rfl
theorem stepDr_bld {P : Program} {ts : List D} {H : List Row} {K : D → List Row → Prop} (z : List D) (parts : List (Nat × Nat × SV)) : stepDr P ts H (.bld z parts) K = (bind' (fillS z (parts.map fun p => (p.1, p.2.1, p.2.2.ev ts))) fun ds => K (.ag ds) H) := id rfl
theorem viewS_bld {ts : List D} {H : List Row} (z : List D) (parts : List (Nat × Nat × SV)) : viewS ts H (.bld z parts) = [] := id rfl
theorem turns_bld (z : List D) (parts : List (Nat × Nat × SV)) : SOp.turns (.bld z parts) = false := id rfl
theorem stepDr_bsl {P : Program} {ts : List D} {H : List Row} {K : D → List Row → Prop} (T : TypeId) (sz len : Nat) (z : List D) (parts : List (Nat × SV)) : stepDr P ts H (.bsl T sz len z parts) K = (bind' (fillS z (parts.map fun p => (p.1, sz, p.2.ev ts))) fun ds => bind' (freezeAll P H ds) fun xu => K (.sl H.length 0 len) (applyUpd H xu.2 ++ [.data T xu.1])) := id rfl
theorem viewS_bsl {ts : List D} {H : List Row} (T : TypeId) (sz len : Nat) (z : List D) (parts : List (Nat × SV)) : viewS ts H (.bsl T sz len z parts) = dedN (refsL ((parts.map fun p => p.2).map (SV.ev ts))) := id rfl
theorem turns_bsl (T : TypeId) (sz len : Nat) (z : List D) (parts : List (Nat × SV)) : SOp.turns (.bsl T sz len z parts) = true := id rfl
theorem stepDr_app {P : Program} {ts : List D} {H : List Row} {K : D → List Row → Prop} (T : TypeId) (sz b : Nat) (s x : SV) : stepDr P ts H (.app T sz b s x) K = (appS H T sz b (s.ev ts) (x.ev ts) K) := id rfl
theorem viewS_app {ts : List D} {H : List Row} (T : TypeId) (sz b : Nat) (s x : SV) : viewS ts H (.app T sz b s x) = dedN (refsL ([s.ev ts, x.ev ts])) := id rfl
theorem turns_app (T : TypeId) (sz b : Nat) (s x : SV) : SOp.turns (.app T sz b s x) = true := id rfl
theorem stepDr_slen {P : Program} {ts : List D} {H : List Row} {K : D → List Row → Prop} (x : SV) : stepDr P ts H (.slen x) K = (bind' (slcS (x.ev ts)) fun n => K (D.int n) H) := id rfl
theorem viewS_slen {ts : List D} {H : List Row} (x : SV) : viewS ts H (.slen x) = [] := id rfl
theorem turns_slen (x : SV) : SOp.turns (.slen x) = false := id rfl
theorem stepDr_mlen {P : Program} {ts : List D} {H : List Row} {K : D → List Row → Prop} (x : SV) : stepDr P ts H (.mlen x) K = (bind' (mapEs H (x.ev ts)) fun es => K (D.int es.length) H) := id rfl
theorem viewS_mlen {ts : List D} {H : List Row} (x : SV) : viewS ts H (.mlen x) = dedN (refsL ([x.ev ts])) := id rfl
theorem turns_mlen (x : SV) : SOp.turns (.mlen x) = false := id rfl
theorem stepDr_conv {P : Program} {ts : List D} {H : List Row} {K : D → List Row → Prop} (k : IntKind) (x : SV) : stepDr P ts H (.conv k x) K = (bind' (convS k (x.ev ts)) fun d => K d H) := id rfl
theorem viewS_conv {ts : List D} {H : List Row} (k : IntKind) (x : SV) : viewS ts H (.conv k x) = [] := id rfl
theorem turns_conv (k : IntKind) (x : SV) : SOp.turns (.conv k x) = false := id rfl
theorem stepDr_s2b {P : Program} {ts : List D} {H : List Row} {K : D → List Row → Prop} (x : SV) : stepDr P ts H (.s2b x) K = (bind' (strOf? (x.ev ts)) fun s => s.size ≤ most ∧ K (.f (.s (s.data.toList.map fun b => .v (.int .u8 b.toNat)) s.size)) H) := id rfl
theorem viewS_s2b {ts : List D} {H : List Row} (x : SV) : viewS ts H (.s2b x) = [] := id rfl
theorem turns_s2b (x : SV) : SOp.turns (.s2b x) = false := id rfl
theorem stepDr_b2s {P : Program} {ts : List D} {H : List Row} {K : D → List Row → Prop} (x : SV) : stepDr P ts H (.b2s x) K = (bind' (elemsS H 1 (x.ev ts)) fun p => bind' (bytesOf? (p.2.map .f)) fun l => p.2.length = p.1 ∧ K (.f (.v (.string ⟨l.toArray⟩))) H) := id rfl
theorem viewS_b2s {ts : List D} {H : List Row} (x : SV) : viewS ts H (.b2s x) = dedN (refsL ([x.ev ts])) := id rfl
theorem turns_b2s (x : SV) : SOp.turns (.b2s x) = false := id rfl
theorem stepDr_strlen {P : Program} {ts : List D} {H : List Row} {K : D → List Row → Prop} (x : SV) : stepDr P ts H (.strlen x) K = (bind' (strOf? (x.ev ts)) fun s => K (D.int s.size) H) := id rfl
theorem viewS_strlen {ts : List D} {H : List Row} (x : SV) : viewS ts H (.strlen x) = [] := id rfl
theorem turns_strlen (x : SV) : SOp.turns (.strlen x) = false := id rfl
theorem stepDr_sidx {P : Program} {ts : List D} {H : List Row} {K : D → List Row → Prop} (x i : SV) : stepDr P ts H (.sidx x i) K = (bind' (strOf? (x.ev ts)) fun s => bind' (intOf? (i.ev ts)) fun i => bind' (if 0 ≤ i then s.data.toList[i.toNat]? else none) fun b => K (.f (.v (.int .u8 b.toNat))) H) := id rfl
theorem viewS_sidx {ts : List D} {H : List Row} (x i : SV) : viewS ts H (.sidx x i) = [] := id rfl
theorem turns_sidx (x i : SV) : SOp.turns (.sidx x i) = false := id rfl
theorem stepDr_ssub {P : Program} {ts : List D} {H : List Row} {K : D → List Row → Prop} (x : SV) (lo hi : Option SV) : stepDr P ts H (.ssub x lo hi) K = (bind' (ssubS (x.ev ts) (lo.map (SV.ev ts)) (hi.map (SV.ev ts))) fun d => K d H) := id rfl
theorem viewS_ssub {ts : List D} {H : List Row} (x : SV) (lo hi : Option SV) : viewS ts H (.ssub x lo hi) = [] := id rfl
theorem turns_ssub (x : SV) (lo hi : Option SV) : SOp.turns (.ssub x lo hi) = false := id rfl
theorem stepDr_look {P : Program} {ts : List D} {H : List Row} {K : D → List Row → Prop} (ok : Bool) (K0 : TypeId) (z : D) (m k : SV) : stepDr P ts H (.look ok K0 z m k) K = (bind' (lookS P H ok K0 z (m.ev ts) (k.ev ts)) fun d => K d H) := id rfl
theorem viewS_look {ts : List D} {H : List Row} (ok : Bool) (K0 : TypeId) (z : D) (m k : SV) : viewS ts H (.look ok K0 z m k) = dedN (refsL ([m.ev ts, k.ev ts])) := id rfl
theorem turns_look (ok : Bool) (K0 : TypeId) (z : D) (m k : SV) : SOp.turns (.look ok K0 z m k) = false := id rfl
theorem stepDr_mput {P : Program} {ts : List D} {H : List Row} {K : D → List Row → Prop} (K0 : TypeId) (m k x : SV) : stepDr P ts H (.mput K0 m k x) K = (bind' (mputS P H K0 (m.ev ts) (k.ev ts) (x.ev ts)) fun H' => K D.undef H') := id rfl
theorem viewS_mput {ts : List D} {H : List Row} (K0 : TypeId) (m k x : SV) : viewS ts H (.mput K0 m k x) = dedN (refsL ([m.ev ts, k.ev ts, x.ev ts])) := id rfl
theorem turns_mput (K0 : TypeId) (m k x : SV) : SOp.turns (.mput K0 m k x) = true := id rfl
theorem stepDr_mdel {P : Program} {ts : List D} {H : List Row} {K : D → List Row → Prop} (K0 : TypeId) (m k : SV) : stepDr P ts H (.mdel K0 m k) K = (bind' (mdelS P H K0 (m.ev ts) (k.ev ts)) fun H' => K (.tp []) H') := id rfl
theorem viewS_mdel {ts : List D} {H : List Row} (K0 : TypeId) (m k : SV) : viewS ts H (.mdel K0 m k) = dedN (refsL ([m.ev ts, k.ev ts])) := id rfl
theorem turns_mdel (K0 : TypeId) (m k : SV) : SOp.turns (.mdel K0 m k) = true := id rfl
theorem stepDr_mm {P : Program} {ts : List D} {H : List Row} {K : D → List Row → Prop} (mx : Bool) (x y : SV) : stepDr P ts H (.mm mx x y) K = (bind' (intOf? (x.ev ts)) fun a => bind' (intOf? (y.ev ts)) fun b => K (D.int (if mx then max a b else min a b)) H) := id rfl
theorem viewS_mm {ts : List D} {H : List Row} (mx : Bool) (x y : SV) : viewS ts H (.mm mx x y) = [] := id rfl
theorem turns_mm (mx : Bool) (x y : SV) : SOp.turns (.mm mx x y) = false := id rfl
theorem stepDr_call {P : Program} {ts : List D} {H : List Row} {K : D → List Row → Prop} (f : SV) (args : List SV) : stepDr P ts H (.call f args) K = callDr P (f.ev ts) (args.map (SV.ev ts)) H K := id rfl
theorem viewS_call {ts : List D} {H : List Row} (f : SV) (args : List SV) : viewS ts H (.call f args) = dedN (lvl H (lvl H (lvl H (refsL (args.map (SV.ev ts)) ++ (f.ev ts).refs)))) := id rfl
theorem turns_call (f : SV) (args : List SV) : SOp.turns (.call f args) = true := id rfl
theorem stepDr_sub0 {P : Program} {ts : List D} {H : List Row} {K : D → List Row → Prop} (sz : Nat) (E : TypeId) (x : SV) : stepDr P ts H (.sub sz E x none none none) K = (bind' (slcS (x.ev ts)) fun n => (0 ≤ (0:Int) ∧ (0:Int) ≤ n ∧ (n:Int) ≤ n) ∧ bind' (subS H sz E (x.ev ts) (0:Int).toNat (n:Int).toNat) fun d => K d H) := id rfl
theorem viewS_sub0 {ts : List D} {H : List Row} (sz : Nat) (E : TypeId) (x : SV) : viewS ts H (.sub sz E x none none none) = dedN (refsL ([x.ev ts])) := id rfl
theorem turns_sub0 (sz : Nat) (E : TypeId) (x : SV) : SOp.turns (.sub sz E x none none none) = false := id rfl
theorem stepDr_subl {P : Program} {ts : List D} {H : List Row} {K : D → List Row → Prop} (sz : Nat) (E : TypeId) (x l : SV) : stepDr P ts H (.sub sz E x (some l) none none) K = (bind' (slcS (x.ev ts)) fun n => bind' (intOf? (l.ev ts)) fun l => (0 ≤ l ∧ l ≤ n ∧ (n:Int) ≤ n) ∧ bind' (subS H sz E (x.ev ts) l.toNat (n:Int).toNat) fun d => K d H) := id rfl
theorem viewS_subl {ts : List D} {H : List Row} (sz : Nat) (E : TypeId) (x l : SV) : viewS ts H (.sub sz E x (some l) none none) = dedN (refsL ([x.ev ts, l.ev ts])) := id rfl
theorem turns_subl (sz : Nat) (E : TypeId) (x l : SV) : SOp.turns (.sub sz E x (some l) none none) = false := id rfl
theorem stepDr_subh {P : Program} {ts : List D} {H : List Row} {K : D → List Row → Prop} (sz : Nat) (E : TypeId) (x h : SV) : stepDr P ts H (.sub sz E x none (some h) none) K = (bind' (slcS (x.ev ts)) fun n => bind' (intOf? (h.ev ts)) fun h => (0 ≤ (0:Int) ∧ 0 ≤ h ∧ h ≤ n) ∧ bind' (subS H sz E (x.ev ts) (0:Int).toNat h.toNat) fun d => K d H) := id rfl
theorem viewS_subh {ts : List D} {H : List Row} (sz : Nat) (E : TypeId) (x h : SV) : viewS ts H (.sub sz E x none (some h) none) = dedN (refsL ([x.ev ts, h.ev ts])) := id rfl
theorem turns_subh (sz : Nat) (E : TypeId) (x h : SV) : SOp.turns (.sub sz E x none (some h) none) = false := id rfl
theorem stepDr_sublh {P : Program} {ts : List D} {H : List Row} {K : D → List Row → Prop} (sz : Nat) (E : TypeId) (x l h : SV) : stepDr P ts H (.sub sz E x (some l) (some h) none) K = (bind' (slcS (x.ev ts)) fun n => bind' (intOf? (l.ev ts)) fun l => bind' (intOf? (h.ev ts)) fun h => (0 ≤ l ∧ l ≤ h ∧ h ≤ n) ∧ bind' (subS H sz E (x.ev ts) l.toNat h.toNat) fun d => K d H) := id rfl
theorem viewS_sublh {ts : List D} {H : List Row} (sz : Nat) (E : TypeId) (x l h : SV) : viewS ts H (.sub sz E x (some l) (some h) none) = dedN (refsL ([x.ev ts, l.ev ts, h.ev ts])) := id rfl
theorem turns_sublh (sz : Nat) (E : TypeId) (x l h : SV) : SOp.turns (.sub sz E x (some l) (some h) none) = false := id rfl
theorem stepDr_subm {P : Program} {ts : List D} {H : List Row} {K : D → List Row → Prop} (sz : Nat) (E : TypeId) (x l h m : SV) : stepDr P ts H (.sub sz E x (some l) (some h) (some m)) K = (bind' (slcS (x.ev ts)) fun n => bind' (intOf? (l.ev ts)) fun l => bind' (intOf? (h.ev ts)) fun h => (0 ≤ l ∧ l ≤ h ∧ h ≤ n) ∧ (intOf? (m.ev ts) = some l ∧ l = h ∧ (some h).isSome = true) ∧ K (mxS (x.ev ts)) H) := id rfl
theorem viewS_subm {ts : List D} {H : List Row} (sz : Nat) (E : TypeId) (x l h m : SV) : viewS ts H (.sub sz E x (some l) (some h) (some m)) = dedN (refsL ([x.ev ts, l.ev ts, h.ev ts, m.ev ts])) := id rfl
theorem turns_subm (sz : Nat) (E : TypeId) (x l h m : SV) : SOp.turns (.sub sz E x (some l) (some h) (some m)) = false := id rfl
theorem stepDr_subm0 {P : Program} {ts : List D} {H : List Row} {K : D → List Row → Prop} (sz : Nat) (E : TypeId) (x h m : SV) : stepDr P ts H (.sub sz E x none (some h) (some m)) K = (bind' (slcS (x.ev ts)) fun n => bind' (intOf? (h.ev ts)) fun h => (0 ≤ (0:Int) ∧ 0 ≤ h ∧ h ≤ n) ∧ (intOf? (m.ev ts) = some 0 ∧ (0:Int) = h ∧ (some h).isSome = true) ∧ K (mxS (x.ev ts)) H) := id rfl
theorem viewS_subm0 {ts : List D} {H : List Row} (sz : Nat) (E : TypeId) (x h m : SV) : viewS ts H (.sub sz E x none (some h) (some m)) = dedN (refsL ([x.ev ts, h.ev ts, m.ev ts])) := id rfl
theorem turns_subm0 (sz : Nat) (E : TypeId) (x h m : SV) : SOp.turns (.sub sz E x none (some h) (some m)) = false := id rfl
def hasB : List Nat → Nat → Bool
  | [], _ => false
  | x :: xs, i => if x = i then true else hasB xs i
theorem hasB_eq : ∀ (V : List Nat) (i : Nat), hasB V i = V.contains i
  | [], _ => rfl
  | x :: xs, i => by
    simp only [hasB, List.contains_cons, hasB_eq xs i]
    by_cases h : x = i
    · simp [h]
    · simp [h, Ne.symm h]
def msk (V : List Nat) : Nat → List Row → List Row
  | _, [] => []
  | i, r :: H => (if hasB V i = true then r else .dead) :: msk V (i + 1) H
theorem msk_eq (V : List Nat) : ∀ (H : List Row) (k : Nat), ((H.zipIdx k).map fun p => if V.contains p.2 then p.1 else .dead) = msk V k H
  | [], _ => rfl
  | r :: H, k => by
    simp only [List.zipIdx_cons, List.map_cons, msk, hasB_eq]
    rw [msk_eq V H (k + 1)]
theorem maskV_msk {V : List Nat} {H : List Row} : maskV V H = msk V 0 H := msk_eq V H 0
theorem msk_nil {V : List Nat} {i : Nat} : msk V i [] = [] := id rfl
theorem msk_cons {V : List Nat} {i : Nat} {r : Row} {H : List Row} : msk V i (r :: H) = (if hasB V i = true then r else .dead) :: msk V (i + 1) H := id rfl
theorem hasB_nil {i : Nat} : hasB [] i = false := id rfl
theorem hasB_cons {x i : Nat} {xs : List Nat} : hasB (x :: xs) i = if x = i then true else hasB xs i := id rfl
theorem dedN_nil : dedN [] = [] := id rfl
theorem dedN_cons {x : Nat} {xs : List Nat} : dedN (x :: xs) = if hasB xs x = true then dedN xs else x :: dedN xs := by rw [hasB_eq]; rfl
theorem refsL_nil : refsL [] = [] := id rfl
theorem refsL_cons {d : D} {ds : List D} : refsL (d :: ds) = d.refs ++ refsL ds := id rfl
theorem refs_f {x : F} : D.refs (.f x) = [] := id rfl
theorem refs_sl {r o n : Nat} : D.refs (.sl r o n) = [r] := id rfl
theorem refs_pt {r o : Nat} : D.refs (.pt r o) = [r] := id rfl
theorem refs_mp {r : Nat} : D.refs (.mp r) = [r] := id rfl
theorem refs_rf {xs : List F} : D.refs (.rf xs) = [] := id rfl
theorem refs_junk : D.refs .junk = [] := id rfl
theorem refs_goL (ds : List D) : D.refs.go ds = refsL ds := by
  induction ds with
  | nil => rfl
  | cons d ds ih => simp only [D.refs.go, refsL, ih]
theorem refs_ag {ds : List D} : D.refs (.ag ds) = refsL ds := by rw [D.refs, refs_goL]
theorem refs_tp {ds : List D} : D.refs (.tp ds) = refsL ds := by rw [D.refs, refs_goL]
theorem refs_fn {f : FuncId} {ds : List D} : D.refs (.fn f ds) = refsL ds := by rw [D.refs, refs_goL]
theorem lvl_nil {H : List Row} : lvl H [] = [] := id rfl
theorem lvl_cons {H : List Row} {r : Nat} {rs : List Nat} : lvl H (r :: rs) = r :: (rowRefs H[r]? ++ lvl H rs) := id rfl
theorem rowRefs_box {T : TypeId} {ds : List D} : rowRefs (some (.box T ds)) = refsL ds := by
  simp only [rowRefs, Row.refs]
  induction ds with
  | nil => rfl
  | cons d ds ih => simp only [List.flatMap_cons, refsL, ih]
theorem rowRefs_data {T : TypeId} {xs : List F} : rowRefs (some (.data T xs)) = [] := id rfl
theorem rowRefs_froz {T : TypeId} {xs : List F} : rowRefs (some (.froz T xs)) = [] := id rfl
theorem rowRefs_map {es : List (Value × D)} : rowRefs (some (.map es)) = [] := id rfl
theorem rowRefs_dead  : rowRefs (some (.dead)) = [] := id rfl
theorem effS_f {V : List Nat} {n : Nat} {d : D} {H1 : List Row} : effS false V n d H1 = ⟨d, [], H1.drop n⟩ := id rfl
theorem effS_t {V : List Nat} {n : Nat} {d : D} {H1 : List Row} : effS true V n d H1 = ⟨d, V.map fun r => (r, H1.getD r .dead), H1.drop n⟩ := id rfl
theorem heap_mk {d : D} {u : List (Nat × Row)} {n H : List Row} : (⟨d, u, n⟩ : Eff).heap H = applyUpd H u ++ n := id rfl
theorem applyUpd_cons {H : List Row} {i : Nat} {r : Row} {us : List (Nat × Row)} : applyUpd H ((i, r) :: us) = applyUpd (H.set i r) us := id rfl
theorem getD_0 {α : Type} {a d : α} {l : List α} : (a :: l).getD 0 d = a := id rfl
theorem getD_s {α : Type} {a d : α} {l : List α} {n : Nat} : (a :: l).getD (n + 1) d = l.getD n d := id rfl
theorem Chk.mk' {b : Bool} (h : b = true) : Chk b := h
section
variable {P : Program}
theorem callDr_self {g : FuncId} {caps args : List D} {H H1 : List Row} {d0 : D} {K : D → List Row → Prop} (h : Con P g (args ++ caps) H fun d H' => d = d0 ∧ H' = H1) (hk : K d0 H1) : callDr P (.fn g caps) args H K := ⟨g, caps, d0, H1, rfl, h, hk⟩
theorem callDr_emb {g : FuncId} {caps args args0 : List D} {H H0 H1 : List Row} {d0 : D} {K : D → List Row → Prop} (h : Con P g args0 H0 fun d H' => d = d0 ∧ H' = H1) (ι : List Nat) (hb : embOk ι H.length H0 args0 = true) (ha : args ++ caps = args0.map (renE (ren ι H.length)))
    (hr : (ι.map fun r => H.getD r .dead) = H0.map (renR (ren ι H.length)))
    (hk : K (renE (ren ι H.length) d0) (putRows (ren ι H.length) ι H1 H ++ (H1.drop H0.length).map (renR (ren ι H.length)))) : callDr P (.fn g caps) args H K := by
  obtain ⟨g', caps', e, hc⟩ := callW_emb (K := fun d H' => d = renE (ren ι H.length) d0 ∧ H' = putRows (ren ι H.length) ι H1 H ++ (H1.drop H0.length).map (renR (ren ι H.length))) h ι hb ha hr (fun d H' ⟨h1, h2⟩ => by rw [h1, h2]; exact ⟨rfl, rfl⟩)
  injection e with e1 e2
  subst e1; subst e2
  exact ⟨g, caps, _, _, rfl, hc, hk⟩
theorem callDr_peek {g : FuncId} {caps args args0 : List D} {H H1 : List Row} {d0 : D} {K : D → List Row → Prop} (h : Con P g args0 [] fun d H' => d = d0 ∧ H' = H1) (hv : Vws H (args ++ caps) args0) (hp : PlainD d0 ∧ ∀ row ∈ H1, PlainR row)
    (hk : K (renE (ren [] H.length) d0) (H ++ H1.map (renR (ren [] H.length)))) : callDr P (.fn g caps) args H K := by
  obtain ⟨g', caps', e, hc⟩ := callW_peek (K := fun d H' => d = renE (ren [] H.length) d0 ∧ H' = H ++ H1.map (renR (ren [] H.length))) h hv (fun d H' ⟨h1, h2⟩ => by rw [h1, h2]; exact hp) (fun d H' ⟨h1, h2⟩ => by rw [h1, h2]; exact ⟨rfl, rfl⟩)
  injection e with e1 e2
  subst e1; subst e2
  exact ⟨g, caps, _, _, rfl, hc, hk⟩
end
/-- A still cell is stored. -/
def storeF (H : List Row) (r off : Nat) (x : F) (o : Option Row) : Option (List Row) := match o with
  | some (.box U xs) => if off + 1 ≤ xs.length then some (H.set r (.box U (putL off [.f x] xs))) else none
  | some (.data U xs) => if off + 1 ≤ xs.length then some (H.set r (.data U (xs.set off x))) else none
  | _ => none
theorem storeF_box {H : List Row} {r off : Nat} {x : F} {U : TypeId} {xs : List D} : storeF H r off x (some (.box U xs)) = if off + 1 ≤ xs.length then some (H.set r (.box U (putL off [.f x] xs))) else none := id rfl
theorem storeF_data {H : List Row} {r off : Nat} {x : F} {U : TypeId} {xs : List F} : storeF H r off x (some (.data U xs)) = if off + 1 ≤ xs.length then some (H.set r (.data U (xs.set off x))) else none := id rfl
theorem storeS_1f {P : Program} {H : List Row} {r off : Nat} {x : F} : storeS P H 1 (.pt r off) (.f x) = storeF H r off x H[r]? := by
  rw [storeS_pt]
  generalize hr : H[r]? = o
  cases o with
  | none => rfl
  | some row =>
    cases row with
    | data U xs => rw [storeR_f hr]; rfl
    | box U xs => simp [storeR, storeF, okCell, D.cells]
    | _ => rfl
theorem storeS_n {P : Program} {H : List Row} {n r off : Nat} {x : D} : storeS P H (n + 2) (.pt r off) x = storeR P H (n + 2) r off x H[r]? := storeS_pt
theorem storeS_1sl {P : Program} {H : List Row} {r off a b c : Nat} : storeS P H 1 (.pt r off) (.sl a b c) = storeR P H 1 r off (.sl a b c) H[r]? := storeS_pt
theorem storeS_1pt {P : Program} {H : List Row} {r off a b : Nat} : storeS P H 1 (.pt r off) (.pt a b) = storeR P H 1 r off (.pt a b) H[r]? := storeS_pt
theorem storeS_1mp {P : Program} {H : List Row} {r off a : Nat} : storeS P H 1 (.pt r off) (.mp a) = storeR P H 1 r off (.mp a) H[r]? := storeS_pt
theorem storeS_1rf {P : Program} {H : List Row} {r off : Nat} {a : List F} : storeS P H 1 (.pt r off) (.rf a) = storeR P H 1 r off (.rf a) H[r]? := storeS_pt
theorem storeS_1fn {P : Program} {H : List Row} {r off : Nat} {f : FuncId} {a : List D} : storeS P H 1 (.pt r off) (.fn f a) = storeR P H 1 r off (.fn f a) H[r]? := storeS_pt
end Go.Proofs.Ytjhemkeilagnnaa.Mir
