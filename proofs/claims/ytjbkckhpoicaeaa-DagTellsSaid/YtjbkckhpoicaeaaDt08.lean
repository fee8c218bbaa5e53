/- Texts laid into one file: T, CDag, DagA, DagB, DagC. -/
import Derived.Test.YtjbkckhpoicaeaaDt07

set_option linter.unusedVariables false
set_option linter.unusedSimpArgs false
/- Plain things as the machine holds them: lists of ints, of bools, graphs. -/
namespace Go.Proofs.Ytjbkckhpoicaeaa.Mir
open Go Go.RowKit

theorem isHS {P : Program} {n : Nat} {c : SCode} {s : St} {Q : Out → St → Prop} (h : HS P n c s Q) : HS P n c s Q := h
theorem isRet {n : Nat} {l : List SR} {Q : D → List Row → Prop} {s : St} (h : RetS n l Q s) : RetS n l Q s := h
theorem isCall {P : Program} {f : D} {l : List D} {H : List Row} {K : D → List Row → Prop} (h : callW P f l H K) : callW P f l H K := h
theorem isNext {n0 : Nat} {keep : List Nat} {α : Type} {st : α → St} {p : α → Prop} {m : α → Nat} {x : α} {s : St} (h : Next n0 keep st p m x s) : Next n0 keep st p m x s := h
theorem isThen {next : St → Prop} {Q : Out → St → Prop} {o : Out} {s : St} (h : thenQ next Q o s) : thenQ next Q o s := h
theorem isBlock {i : Nat} {Q : Out → St → Prop} {o : Out} {s : St} (h : blockQ i Q o s) : blockQ i Q o s := h
theorem if_some {α : Type} {c : Prop} [Decidable c] {a : α} (h : c) : (if c then some a else none) = some a := if_pos h
theorem isNextP {n : Nat} {α : Type} {st : α → List (Nat × D)} {hs : α → List Row} {p : α → Prop} {m : α → Nat} {x : α} {s : St} (h : NextP n st hs p m x s) : NextP n st hs p m x s := h
abbrev iF (n : Int) : F := .v (.int .i64 n)
abbrev bF (b : Bool) : F := .v (.bool b)
def fI (l : List Int) : F := .s (l.map iF) l.length
def fB (l : List Bool) : F := .s (l.map bF) l.length
theorem set_map_b {l : List Bool} {i : Nat} {b : Bool} : (l.map bF).set i (.v (.bool b)) = (l.set i b).map bF := by rw [List.map_set]
theorem app_map_i {l : List Int} {z : Int} : l.map iF ++ [.v (.int .i64 z)] = (l ++ [z]).map iF := by rw [List.map_append]; rfl
theorem most_eq : most = 140737488355328 := id rfl
theorem plain_ints (l : List Int) : ∀ x ∈ l.map iF, PlainF x := fun x hx => by
  obtain ⟨n, _, rfl⟩ := List.mem_map.1 hx
  exact .v

/-- Elements of so many cells each. -/
theorem flat_at {α : Type} [Inhabited α] {cs : α → List F} {n : Nat} (hn : ∀ x, (cs x).length = n) {l : List α} {k j : Nat} (hk : k < l.length) (hj : j < n) : (l.flatMap cs)[k * n + j]? = (cs (gt l k))[j]? := by
  rw [gt_eq hk]
  exact (flat_getF cs n hn l k hk j hj)
where
  flat_getF {α : Type} (f : α → List F) (n : Nat) (hf : ∀ x, (f x).length = n) : ∀ (xs : List α) (k : Nat) (hk : k < xs.length) (i : Nat), i < n → (xs.flatMap f)[k * n + i]? = (f xs[k])[i]?
    | [], k, hk, _, _ => by simp at hk
    | x :: xs, 0, _, i, hi => by
      rw [List.flatMap_cons, Nat.zero_mul, Nat.zero_add, List.getElem?_append_left (by rw [hf]; exact hi)]; rfl
    | x :: xs, k + 1, hk, i, hi => by
      rw [List.flatMap_cons, List.getElem?_append_right (by rw [hf, Nat.add_mul]; omega), hf, show (k + 1) * n + i - n = k * n + i by rw [Nat.add_mul]; omega]
      exact flat_getF f n hf xs k (by simpa using hk) i hi
theorem flat_len' {α : Type} {cs : α → List F} {n : Nat} (hn : ∀ x, (cs x).length = n) (l : List α) : (l.flatMap cs).length = l.length * n := by
  induction l with
  | nil => simp
  | cons x l ih => rw [List.flatMap_cons, List.length_append, hn, ih, List.length_cons, Nat.add_mul]; omega
theorem flat_take {α : Type} [Inhabited α] {cs : α → List F} {n : Nat} (hn : ∀ x, (cs x).length = n) {l : List α} {k : Nat} (hk : k < l.length) : ((l.flatMap cs).drop (k * n)).take n = cs (gt l k) := by
  apply List.ext_getElem?
  intro j
  rw [List.getElem?_take]
  split
  · rename_i hj
    rw [List.getElem?_drop, flat_at hn hk hj]
  · rw [List.getElem?_eq_none (by rw [hn]; omega)]
theorem flat_loadA {α : Type} [Inhabited α] {cs : α → List F} {n : Nat} (hn : ∀ x, (cs x).length = n) {H : List Row} {l : List α} {k : Nat} (hk : k < l.length) : loadA H n (.rf ((l.flatMap cs).drop (k * n))) = some (.ag ((cs (gt l k)).map .f)) := by
  have hl := flat_len' hn l
  have : (k + 1) * n ≤ l.length * n := Nat.mul_le_mul_right n hk
  rw [Nat.add_mul] at this
  rw [loadA_rf, if_pos (by rw [List.length_drop, hl]; omega), ← flat_take hn hk, List.map_take]
theorem flat_drop {α : Type} {cs : α → List F} {n : Nat} (hn : ∀ x, (cs x).length = n) : ∀ (l : List α) (k : Nat), (l.flatMap cs).drop (k * n) = (l.drop k).flatMap cs
  | l, 0 => by simp
  | [], k + 1 => by simp
  | x :: l, k + 1 => by
    rw [List.flatMap_cons, List.drop_succ_cons, ← flat_drop hn l k, Nat.add_mul, Nat.one_mul, Nat.add_comm, ← List.drop_drop, List.drop_left' (hn x)]

/-- A node. -/
structure Nd where
  ns : List Int
  tr : Int
  le : Int
  deriving Inhabited, DecidableEq
def Nd.cs (d : Nd) : List F := [fI d.ns, iF d.tr, iF d.le]
theorem Nd.cs_len (d : Nd) : d.cs.length = 3 := rfl
theorem nd_cs {d : Nd} : d.cs = [fI d.ns, iF d.tr, iF d.le] := id rfl
def fG (g : List Nd) : F := .s (g.flatMap Nd.cs) g.length
theorem nd_load {H : List Row} {g : List Nd} {k : Nat} (hk : k < g.length) : loadA H 3 (.rf ((g.flatMap Nd.cs).drop (k * 3))) = some (.ag ((Nd.cs (gt g k)).map .f)) := flat_loadA Nd.cs_len hk
theorem nd_at0 {g : List Nd} {k : Nat} (hk : k < g.length) : (g.flatMap Nd.cs)[k * 3]? = some (fI (gt g k).ns) := flat_at (j := 0) Nd.cs_len hk (by omega)
theorem nd_at1 {g : List Nd} {k : Nat} (hk : k < g.length) : (g.flatMap Nd.cs)[k * 3 + 1]? = some (iF (gt g k).tr) := flat_at (j := 1) Nd.cs_len hk (by omega)
theorem nd_at2 {g : List Nd} {k : Nat} (hk : k < g.length) : (g.flatMap Nd.cs)[k * 3 + 2]? = some (iF (gt g k).le) := flat_at (j := 2) Nd.cs_len hk (by omega)
/-- A nil slice in a box is looked at as a list without elements. -/
theorem View.nil0 {P : Program} {n0 : Nat} {ts : List D} {H : List Row} {dr : List Nat} {r i : Nat} {T : TypeId} {xs : List D} (hH : H[r]? = some (.box T xs)) (hx : xs[i]? = some (.f (.v (.slice none 0 0)))) :
    View P n0 ⟨ts, H, dr⟩ ⟨ts, H.set r (.box T (xs.set i (.f (.s [] 0)))), []⟩ := by
  intro X w0 φ0 H0 w φ a _ hr
  have hlt : r < H.length := (List.getElem?_eq_some_iff.1 hH).1
  have hget : ∀ (q : Nat) (row : Row), (H.set r (.box T (xs.set i (.f (.s [] 0)))))[q]? = some row → (q = r ∧ row = .box T (xs.set i (.f (.s [] 0)))) ∨ H[q]? = some row := by
    intro q row h
    rw [List.getElem?_set] at h
    split at h
    · rename_i e; subst e
      try rw [if_pos hlt] at h
      exact .inl ⟨rfl, (Option.some.inj h).symm⟩
    · exact .inr h
  have hback : ∀ (q : Nat) (row : Row), H[q]? = some row → ∃ row' : Row, (H.set r (.box T (xs.set i (.f (.s [] 0)))))[q]? = some row' ∧ row'.live = row.live := by
    intro q row h
    rw [List.getElem?_set]
    split
    · rename_i e; subst e
      try rw [if_pos hlt]
      rw [hH] at h
      cases h
      exact ⟨_, rfl, rfl⟩
    · exact ⟨row, h, rfl⟩
  have hlive : ∀ b, Live φ (H.set r (.box T (xs.set i (.f (.s [] 0))))) b ↔ Live φ H b := by
    intro b
    constructor
    · rintro ⟨q, row, h1, h2, h3⟩
      rcases hget q row h1 with ⟨rfl, rfl⟩ | h
      · exact ⟨q, _, hH, rfl, h3⟩
      · exact ⟨q, row, h, h2, h3⟩
    · rintro ⟨q, row, h1, h2, h3⟩
      obtain ⟨row', h4, h5⟩ := hback q row h1
      exact ⟨q, row', h4, by rw [h5]; exact h2, h3⟩
  have hav : Av X φ (H.set r (.box T (xs.set i (.f (.s [] 0))))) = Av X φ H := funext fun b => propext (or_congr Iff.rfl (hlive b))
  have hlen : (H.set r (.box T (xs.set i (.f (.s [] 0))))).length = H.length := List.length_set
  refine ⟨φ, ⟨⟨?_, ?_, ?_, hr.sim.heap.old⟩, ?_, hr.sim.defers⟩, ⟨?_, hr.ons.same, hr.ons.keep, fun b h => hr.ons.fresh b ((hlive b).1 h)⟩⟩
  · intro q row h
    dsimp only at h ⊢
    rw [hav, hlen]
    rcases hget q row h with ⟨rfl, rfl⟩ | h
    · obtain ⟨h0, cs, hc, ⟨hl, hg⟩, hone⟩ := hr.sim.heap.rows q _ hH
      refine ⟨h0, cs, hc, ⟨by rw [List.length_set]; exact hl, fun j d u hd hu => ?_⟩, hone⟩
      rw [List.getElem?_set] at hd
      split at hd
      · rename_i e; subst e
        have hd : some (D.f (.s [] 0)) = some d := by first | exact hd | (split at hd <;> first | exact hd | cases hd)
        cases hd
        have := hg i _ u hx hu
        cases this with | f h => cases h with | v _ => exact .f .s0
      · exact hg j d u hd hu
    · exact hr.sim.heap.rows q row h
  · intro q s row row' h1 h2 h3 h4 h5
    have k : ∀ (q : Nat) (row : Row), (H.set r (.box T (xs.set i (.f (.s [] 0)))))[q]? = some row → row.live = true → ∃ row0, H[q]? = some row0 ∧ row0.live = true := by
      intro q row h hl
      rcases hget q row h with ⟨rfl, rfl⟩ | h
      · exact ⟨_, hH, rfl⟩
      · exact ⟨row, h, hl⟩
    obtain ⟨a1, b1, c1⟩ := k q row h1 h3
    obtain ⟨a2, b2, c2⟩ := k s row' h2 h4
    exact hr.sim.heap.apart q s a1 a2 b1 b2 c1 c2 h5
  · intro q row h1 h3
    rcases hget q row h1 with ⟨rfl, rfl⟩ | h
    · exact hr.sim.heap.off q _ hH rfl
    · exact hr.sim.heap.off q row h h3
  · dsimp only
    rw [hav, hlen]
    exact hr.sim.tmps
  · dsimp only
    rw [hlen]
    exact hr.ons.len
/-- A nil slice in a row of data is looked at as a list without elements. -/
theorem View.nild {P : Program} {n0 : Nat} {ts : List D} {H : List Row} {dr : List Nat} {r i : Nat} {T : TypeId} {xs : List F} (hH : H[r]? = some (.data T xs)) (hx : xs[i]? = some (.v (.slice none 0 0))) :
    View P n0 ⟨ts, H, dr⟩ ⟨ts, H.set r (.data T (xs.set i (.s [] 0))), []⟩ := by
  intro X w0 φ0 H0 w φ a _ hr
  have hlt : r < H.length := (List.getElem?_eq_some_iff.1 hH).1
  have hget : ∀ (q : Nat) (row : Row), (H.set r (.data T (xs.set i (.s [] 0))))[q]? = some row → (q = r ∧ row = .data T (xs.set i (.s [] 0))) ∨ H[q]? = some row := by
    intro q row h
    rw [List.getElem?_set] at h
    split at h
    · rename_i e; subst e
      try rw [if_pos hlt] at h
      exact .inl ⟨rfl, (Option.some.inj h).symm⟩
    · exact .inr h
  have hback : ∀ (q : Nat) (row : Row), H[q]? = some row → ∃ row' : Row, (H.set r (.data T (xs.set i (.s [] 0))))[q]? = some row' ∧ row'.live = row.live := by
    intro q row h
    rw [List.getElem?_set]
    split
    · rename_i e; subst e
      try rw [if_pos hlt]
      rw [hH] at h
      cases h
      exact ⟨_, rfl, rfl⟩
    · exact ⟨row, h, rfl⟩
  have hlive : ∀ b, Live φ (H.set r (.data T (xs.set i (.s [] 0)))) b ↔ Live φ H b := by
    intro b
    constructor
    · rintro ⟨q, row, h1, h2, h3⟩
      rcases hget q row h1 with ⟨rfl, rfl⟩ | h
      · exact ⟨q, _, hH, rfl, h3⟩
      · exact ⟨q, row, h, h2, h3⟩
    · rintro ⟨q, row, h1, h2, h3⟩
      obtain ⟨row', h4, h5⟩ := hback q row h1
      exact ⟨q, row', h4, by rw [h5]; exact h2, h3⟩
  have hav : Av X φ (H.set r (.data T (xs.set i (.s [] 0)))) = Av X φ H := funext fun b => propext (or_congr Iff.rfl (hlive b))
  have hlen : (H.set r (.data T (xs.set i (.s [] 0)))).length = H.length := List.length_set
  refine ⟨φ, ⟨⟨?_, ?_, ?_, hr.sim.heap.old⟩, ?_, hr.sim.defers⟩, ⟨?_, hr.ons.same, hr.ons.keep, fun b h => hr.ons.fresh b ((hlive b).1 h)⟩⟩
  · intro q row h
    dsimp only at h ⊢
    rw [hav, hlen]
    rcases hget q row h with ⟨rfl, rfl⟩ | h
    · obtain ⟨pre, us, post, hc, hp, ⟨hl, hg⟩⟩ := hr.sim.heap.rows q _ hH
      refine ⟨pre, us, post, hc, hp, ⟨by rw [List.length_set]; exact hl, fun j d u hd hu => ?_⟩⟩
      rw [List.getElem?_set] at hd
      split at hd
      · rename_i e; subst e
        have hd : some (F.s [] 0) = some d := by first | exact hd | (split at hd <;> first | exact hd | cases hd)
        cases hd
        have := hg i _ u hx hu
        cases this with | v _ => exact .s0
      · exact hg j d u hd hu
    · exact hr.sim.heap.rows q row h
  · intro q s row row' h1 h2 h3 h4 h5
    have k : ∀ (q : Nat) (row : Row), (H.set r (.data T (xs.set i (.s [] 0))))[q]? = some row → row.live = true → ∃ row0, H[q]? = some row0 ∧ row0.live = true := by
      intro q row h hl
      rcases hget q row h with ⟨rfl, rfl⟩ | h
      · exact ⟨_, hH, rfl⟩
      · exact ⟨row, h, hl⟩
    obtain ⟨a1, b1, c1⟩ := k q row h1 h3
    obtain ⟨a2, b2, c2⟩ := k s row' h2 h4
    exact hr.sim.heap.apart q s a1 a2 b1 b2 c1 c2 h5
  · intro q row h1 h3
    rcases hget q row h1 with ⟨rfl, rfl⟩ | h
    · exact hr.sim.heap.off q _ hH rfl
    · exact hr.sim.heap.off q row h h3
  · dsimp only
    rw [hav, hlen]
    exact hr.sim.tmps
  · dsimp only
    rw [hlen]
    exact hr.ons.len
/-- The end of a part of the code, told. -/
def OutN (P : Program) (n0 : Nat) {α : Type} (st : α → St) (p : α → Prop) (o : Out) (s : St) : Prop := o = .normal ∧ ∃ y, View P n0 s (st y) ∧ p y
theorem OutN.mk {P : Program} {n0 : Nat} {α : Type} {st : α → St} {p : α → Prop} {s : St} (keep : List Nat) (y : α) (h : sweepW n0 keep s = some (st y)) (hp : p y) : OutN P n0 st p .normal s := ⟨rfl, y, View.sweep h, hp⟩
theorem OutN.via {P : Program} {n0 : Nat} {α : Type} {st : α → St} {p : α → Prop} {s s1 : St} (keep : List Nat) (y : α) (h : sweepW n0 keep s = some s1) (hv : View P n0 s1 (st y)) (hp : p y) : OutN P n0 st p .normal s := ⟨rfl, y, (View.sweep h).trans hv, hp⟩
theorem isOutN {P : Program} {n0 : Nat} {α : Type} {st : α → St} {p : α → Prop} {o : Out} {s : St} (h : OutN P n0 st p o s) : OutN P n0 st p o s := h
theorem HS.cutn {P : Program} {n0 : Nat} {c : SCode} {s : St} {Q : Out → St → Prop} {α : Type} (st : α → St) (p : α → Prop) (h1 : HS P n0 c s (OutN P n0 st p)) (h2 : ∀ y, p y → ∀ s', View P n0 s' (st y) → Q .normal s') : HS P n0 c s Q :=
  h1.mono fun o s' ⟨ho, y, hs, hp⟩ => by rw [ho]; exact h2 y hp s' hs
/-- A loop's end, told: the code behind it is walked apart. -/
def OutS (n0 : Nat) (keep : List Nat) (i : Nat) {α : Type} (st : α → St) (p : α → Prop) (o : Out) (s : St) : Prop := o = .exit i ∧ ∃ y, sweepW n0 keep s = some (st y) ∧ p y
theorem OutS.mk {n0 : Nat} {keep : List Nat} {i : Nat} {α : Type} {st : α → St} {p : α → Prop} {s : St} (y : α) (h : sweepW n0 keep s = some (st y)) (hp : p y) : OutS n0 keep i st p (.exit i) s := ⟨rfl, y, h, hp⟩
theorem isOut {n0 : Nat} {keep : List Nat} {i : Nat} {α : Type} {st : α → St} {p : α → Prop} {o : Out} {s : St} (h : OutS n0 keep i st p o s) : OutS n0 keep i st p o s := h
theorem HS.cut {P : Program} {n0 : Nat} {c : SCode} {s : St} {Q : Out → St → Prop} (keep : List Nat) (i : Nat) {α : Type} (st : α → St) (p : α → Prop) (h1 : HS P n0 c s (OutS n0 keep i st p)) (h2 : ∀ y, p y → ∀ s', View P n0 s' (st y) → Q (.exit i) s') : HS P n0 c s Q :=
  h1.mono fun o s' ⟨ho, y, hs, hp⟩ => by rw [ho]; exact h2 y hp s' (View.sweep hs)
/- A drawn region, one operation at a time (mac.py: GOD). -/
theorem wpDr_aK {P : Program} {b : List Nat} {n0 i t n : Nat} {o : SOp} {l : List SI} {own : List Nat} {log : List (List Nat × List Nat)} {e : List (Nat × D)} {H : List Row} {dr : List Nat} {K : St → Prop}
    (h : ∀ N : List Nat → List (List Nat × List Nat) → D → List Row → Prop, (∀ own1 log1 d H1, wpDr P b n0 l (i + 1) own1 log1 ⟨frm n ((t, d) :: e), H1, []⟩ K → N own1 log1 d H1) → drStep P b own n0 i log o (viewS (frm n e) H o) (frm n e) H N) : wpDr P b n0 (.a t o :: l) i own log ⟨frm n e, H, dr⟩ K := by
  rw [wpDr_a]; exact h _ fun _ _ _ _ h => by rw [frm_set]; exact h
theorem wpDr_nK {P : Program} {b : List Nat} {n0 i n : Nat} {o : SOp} {l : List SI} {own : List Nat} {log : List (List Nat × List Nat)} {e : List (Nat × D)} {H : List Row} {dr : List Nat} {K : St → Prop}
    (h : ∀ N : List Nat → List (List Nat × List Nat) → D → List Row → Prop, (∀ own1 log1 d H1, wpDr P b n0 l (i + 1) own1 log1 ⟨frm n e, H1, []⟩ K → N own1 log1 d H1) → drStep P b own n0 i log o (viewS (frm n e) H o) (frm n e) H N) : wpDr P b n0 (.n o :: l) i own log ⟨frm n e, H, dr⟩ K := by
  rw [wpDr_n]; exact h _ fun _ _ _ _ h => h
theorem wpDr_gK {P : Program} {b : List Nat} {n0 i t n u : Nat} {w : Bool} {o : SOp} {l : List SI} {own : List Nat} {log : List (List Nat × List Nat)} {e : List (Nat × D)} {H : List Row} {dr : List Nat} {K : St → Prop}
    (h : ∀ (N : List Nat → List (List Nat × List Nat) → D → List Row → Prop) (M : Prop), (∀ own1 log1 r H1, wpDr P b n0 l (i + 1) own1 log1 ⟨frm n ((u, r) :: e), H1, []⟩ K → N own1 log1 r H1) → (wpDr P b n0 l (i + 1) own (log ++ [([], [])]) ⟨frm n ((u, D.undef) :: e), H, []⟩ K → M) →
      wantV (frm n e)[t]? w (drStep P b own n0 i log o (viewS (frm n e) H o) (frm n e) H N) M) : wpDr P b n0 (.g (some u) o t w :: l) i own log ⟨frm n e, H, dr⟩ K := by
  rw [wpDr_g]; exact h _ _ (fun _ _ _ _ h => by rw [show putD! (frm n e) (some u) _ = (frm n e).set u _ from rfl, frm_set]; exact h) fun h => by rw [show putD! (frm n e) (some u) _ = (frm n e).set u _ from rfl, frm_set]; exact h
theorem LT : (type_of% @if_some ∧ type_of% @most_eq) ∧ (type_of% @set_map_b ∧ type_of% @app_map_i) := ⟨⟨@if_some, @most_eq⟩, ⟨@set_map_b, @app_map_i⟩⟩
/-- A slot's list is laid down for good. -/
theorem View.fix {P : Program} {n0 : Nat} {ts : List D} {H : List Row} {dr : List Nat} {i : Nat} {d : D} {x : F} {us : List (Nat × Row)} (ht : ts[i]? = some d) (hf : freeze1 P H d = some (x, us)) :
    View P n0 ⟨ts, H, dr⟩ ⟨ts.set i (.f x), applyUpd H us, []⟩ := by
  intro X w0 φ0 H0 w φ a _ hr
  have hv : ∃ u, a.tmps.toList[i]? = some u := by
    have h1 := hr.sim.tmps.1
    have h2 : i < ts.length := (List.getElem?_eq_some_iff.1 ht).1
    exact ⟨a.tmps.toList[i]'(by dsimp only at h1; omega), by simp⟩
  obtain ⟨u, hu⟩ := hv
  obtain ⟨h1, h2⟩ := freeze1_ok hr.sim.heap (hr.sim.tmps.2 i d u ht hu) hf
  refine ⟨φ, ⟨⟨h1.ok, ⟨?_, fun j d' u' hd hu' => ?_⟩, hr.sim.defers⟩, ⟨?_, hr.ons.same, hr.ons.keep, fun b hb => hr.ons.fresh b (h1.live b hb)⟩⟩⟩
  · dsimp only; rw [List.length_set]; exact hr.sim.tmps.1
  · dsimp only at hd ⊢
    rw [h1.len]
    rw [List.getElem?_set] at hd
    split at hd
    · rename_i e; subst e
      have hx : D.f x = d' := by split at hd <;> first | exact Option.some.inj hd | cases hd
      subst hx
      rw [hu] at hu'
      cases hu'
      exact .f h2
    · exact (hr.sim.tmps.2 j d' u' hd hu').keep (L := fun _ => False) (Keep.refl _ _) (fun _ h => h.elim) h1.av (fun _ _ => rfl) (Nat.le_refl _)
  · dsimp only; rw [h1.len]; exact hr.ons.len
theorem fix_data {P : Program} {H : List Row} {r m k b : Nat} {T : TypeId} {xs : List F} {z : List Value} (hr : H[r]? = some (.data T xs)) (hi : inf P T = some (k, b, z)) (hm : m ≠ 0) (hn : xs.length = m * k) :
    freeze1 P H (.sl r 0 m) = some (.s xs m, [(r, .froz T xs)]) := by
  have h2 : 0 + m * k ≤ xs.length := by omega
  have h3 : (xs.drop 0).take (m * k) = xs := by rw [List.drop_zero, ← hn, List.take_length]
  simp only [freeze1, hr, hi, h3, if_neg hm, if_pos h2]
theorem fix_froz {P : Program} {H : List Row} {r m k b : Nat} {T : TypeId} {xs : List F} {z : List Value} (hr : H[r]? = some (.froz T xs)) (hi : inf P T = some (k, b, z)) (hm : m ≠ 0) (hn : xs.length = m * k) :
    freeze1 P H (.sl r 0 m) = some (.s xs m, []) := by
  have h2 : 0 + m * k ≤ xs.length := by omega
  have h3 : (xs.drop 0).take (m * k) = xs := by rw [List.drop_zero, ← hn, List.take_length]
  simp only [freeze1, hr, hi, h3, if_neg hm, if_pos h2]
/-- A slot's row is laid down for good. -/
theorem View.frz {P : Program} {n0 n : Nat} {e : List (Nat × D)} {H : List Row} {dr : List Nat} (i : Nat) {r m k b : Nat} {T : TypeId} {xs : List F} {z : List Value} (ht : look i e = .sl r 0 m) (hr : H[r]? = some (.data T xs)) (hi : inf P T = some (k, b, z)) (hm : m ≠ 0) (hn : xs.length = m * k) (hin : i < n) :
    View P n0 ⟨Mir.frm n e, H, dr⟩ ⟨Mir.frm n ((i, .f (.s xs m)) :: e), H.set r (.froz T xs), []⟩ := by
  have := View.fix (P := P) (n0 := n0) (dr := dr) (ts := Mir.frm n e) (i := i) (d := .sl r 0 m) (by rw [frm_get hin, ht]) (fix_data hr hi hm hn)
  rw [frm_set] at this
  exact this
/- Short names, for the tactic texts. -/
theorem r1 : type_of% @HS.seq := @HS.seq
theorem r2 : type_of% @HS.block := @HS.block
theorem r3 : type_of% @HS.exit := @HS.exit
theorem r4 : type_of% @HS.ret := @HS.ret
theorem r5 : type_of% @HS.skip := @HS.skip
theorem r6 : type_of% @thenQ_n := @thenQ_n
theorem r7 : type_of% @blockQ_n := @blockQ_n
theorem r8 : type_of% @thenQ_r := @thenQ_r
theorem r9 : type_of% @blockQ_r := @blockQ_r
theorem rA : type_of% @thenQ_x := @thenQ_x
theorem rB : type_of% @blockQ_hit := @blockQ_hit
theorem rC : type_of% @endS_r := @endS_r
theorem rD : type_of% @endS_n := @endS_n
theorem s1 : type_of% @isHS := @isHS
theorem s2 : type_of% @isRet := @isRet
theorem s3 : type_of% @isCall := @isCall
theorem s4 : type_of% @isNext := @isNext
theorem s5 : type_of% @isNextP := @isNextP
theorem s6 : type_of% @isThen := @isThen
theorem s7 : type_of% @isBlock := @isBlock
theorem s8 : type_of% @isOut := @isOut
theorem s9 : type_of% @isOutN := @isOutN
theorem rK {n0 : Nat} {s : St} {Q : Out → St → Prop} {l : List SI} (h : ∀ K : St → Prop, (∀ s', Q .normal s' → K s') → wpS Try.prog l s K) : HS Try.prog n0 (.ops l) s Q := HS.opsK good h
theorem rL {n0 : Nat} {s : St} {Q : Out → St → Prop} {l : List SI} {b : List Nat} (h : ∀ K : St → Prop, (∀ s', Q .normal s' → K s') → wpDr Try.prog b s.H.length l 0 [] [] s K) : HS Try.prog n0 (.drw l b) s Q := HS.drw good h
end Go.Proofs.Ytjbkckhpoicaeaa.Mir

/- Functions of the program, told without it. -/
namespace Go.Proofs.Ytjbkckhpoicaeaa.Mir
open Go Go.RowKit

/-- cutover.dag.right -/
def s_dag_right : SCode :=
  (.seq (.ops [.a 2 (.box 30 (.t 0)),
 .a 4 (.mv (.c (.f (.v (.bool false)))))])
  (.seq (.ops [.a 5 (.mv (.c (.f (.v (.int .i64 (-1))))))])
  (.seq (.seq (.ops [.a 8 (.off 0 (.t 2)),
 .a 9 (.load1 (.t 8)),
 .a 10 (.slen (.t 9)),
 .a 11 (.mv (.c (.f (.v (.int .i64 0)))))])
   (.block 0 (.loop
     (.seq (.ops [.a 12 (.bin .lss (.t 11) (.t 10))])
     (.seq (.cond (.t 12)
       .skip
       (.exit 0))
     (.seq (.block 1 (.seq (.ops [.a 13 (.idx 1 (.t 9) (.t 11)),
 .a 14 (.load1 (.t 13)),
 .a 7 (.mv (.t 14))])
       (.seq (.seq (.ops ([.a 15 (.mv (.t 7)),
 .a 16 (.mv (.t 5)),
 .a 17 (.bin .leq (.t 15) (.t 16))] ++
 ([.a 18 (.mv (.t 17)),
 .g (some 19) (.mv (.t 7)) 18 false] ++
 ([.g (some 20) (.mv (.t 1)) 18 false,
 .g (some 21) (.bin .geq (.t 19) (.t 20)) 18 false] ++
 ([.a 22 (.pick (.t 18) (.c (.f (.v (.bool true)))) (.t 21))])))))
        (.cond (.t 22)
         (.seq (.ops [.a 4 (.mv (.c (.f (.v (.bool false)))))])
         .ret)
         .skip))
       (.ops [.a 23 (.mv (.t 7)),
 .a 5 (.mv (.t 23))]))))
     (.ops [.a 24 (.bin .add (.t 11) (.c (.f (.v (.int .i64 1))))),
 .a 11 (.mv (.t 24))])))))))
  (.seq (.ops ([.a 25 (.off 1 (.t 2)),
 .a 26 (.load1 (.t 25)),
 .a 27 (.bin .geq (.t 26) (.c (.f (.v (.int .i64 1)))))] ++
 ([.a 28 (.mv (.t 27)),
 .g (some 29) (.off 1 (.t 2)) 28 true] ++
 ([.g (some 30) (.load1 (.t 29)) 28 true,
 .g (some 31) (.bin .leq (.t 30) (.c (.f (.v (.int .i64 5))))) 28 true] ++
 ([.a 32 (.pick (.t 28) (.t 31) (.c (.f (.v (.bool false))))),
 .a 33 (.mv (.t 32)),
 .g (some 34) (.off 2 (.t 2)) 33 true] ++
 ([.g (some 35) (.load1 (.t 34)) 33 true,
 .g (some 36) (.bin .geq (.t 35) (.c (.f (.v (.int .i64 1))))) 33 true] ++
 ([.a 37 (.pick (.t 33) (.t 36) (.c (.f (.v (.bool false))))),
 .a 38 (.mv (.t 37)),
 .g (some 39) (.off 2 (.t 2)) 38 true] ++
 ([.g (some 40) (.load1 (.t 39)) 38 true,
 .g (some 41) (.bin .leq (.t 40) (.c (.f (.v (.int .i64 1048576))))) 38 true] ++
 ([.a 42 (.pick (.t 38) (.t 41) (.c (.f (.v (.bool false))))),
 .a 4 (.mv (.t 42))])))))))))
  .ret))))
theorem fn_dag_right : Fn Try.prog 42 43 [.t 4] s_dag_right := ⟨_, _, Try.func42, rfl, rfl, by kernel_rfl, by kernel_rfl⟩

/-- cutover.dag.met -/
def s_dag_met : SCode :=
  (.seq (.ops [.a 3 (.box 59 (.t 1)),
 .a 4 (.mv (.c (.f (.v (.bool false)))))])
  (.seq (.ops ([.a 5 (.mv (.t 0)),
 .a 6 (.fn 70 [(.t 3)]),
 .a 7 (.call (.c (.fn 69 [])) [(.t 5), (.t 6)])] ++
 ([.a 8 (.unot (.t 7)),
 .a 4 (.mv (.t 8))])))
  .ret))
theorem fn_dag_met : Fn Try.prog 61 9 [.t 4] s_dag_met := ⟨_, _, Try.func61, rfl, rfl, by kernel_rfl, by kernel_rfl⟩

/-- cutover.dag.met$1 -/
def s_dag_met1 : SCode :=
  (.seq (.ops [.a 3 (.mv (.c (.f (.v (.bool false)))))])
  (.seq (.ops ([.a 4 (.mv (.t 0)),
 .a 5 (.load1 (.t 1)),
 .a 6 (.slen (.t 5)),
 .a 7 (.bin .geq (.t 4) (.t 6))] ++
 ([.a 8 (.mv (.t 7)),
 .g (some 9) (.load1 (.t 1)) 8 false] ++
 ([.g (some 10) (.mv (.t 0)) 8 false,
 .g (some 11) (.idx 1 (.t 9) (.t 10)) 8 false,
 .g (some 12) (.load1 (.t 11)) 8 false,
 .g (some 13) (.unot (.t 12)) 8 false,
 .a 14 (.pick (.t 8) (.c (.f (.v (.bool true)))) (.t 13)),
 .a 3 (.mv (.t 14))]))))
  .ret))
theorem fn_dag_met1 : Fn Try.prog 70 15 [.t 3] s_dag_met1 := ⟨_, _, Try.func70, rfl, rfl, by kernel_rfl, by kernel_rfl⟩

/-- slices.ContainsFunc[[]int,int] -/
def s_int_ContainsFunc : SCode :=
  (.seq (.ops [.a 4 (.mv (.c (.f (.v (.bool false)))))])
  (.seq (.ops ([.a 5 (.mv (.t 0)),
 .a 6 (.mv (.t 1)),
 .a 7 (.call (.c (.fn 83 [])) [(.t 5), (.t 6)])] ++
 ([.a 8 (.bin .geq (.t 7) (.c (.f (.v (.int .i64 0)))))] ++
 ([.a 4 (.mv (.t 8))]))))
  .ret))
theorem fn_int_ContainsFunc : Fn Try.prog 69 9 [.t 4] s_int_ContainsFunc := ⟨_, _, Try.func69, rfl, rfl, by kernel_rfl, by kernel_rfl⟩

/-- slices.IndexFunc[[]int,int] -/
def s_int_IndexFunc : SCode :=
  (.seq (.ops [.a 4 (.mv (.c (.f (.v (.int .i64 0)))))])
  (.seq (.seq (.ops [.a 6 (.mv (.t 0)),
 .a 7 (.slen (.t 6)),
 .a 8 (.mv (.c (.f (.v (.int .i64 0)))))])
   (.block 0 (.loop
     (.seq (.ops [.a 9 (.bin .lss (.t 8) (.t 7))])
     (.seq (.cond (.t 9)
       .skip
       (.exit 0))
     (.seq (.block 1 (.seq (.ops [.a 10 (.mv (.t 8)),
 .a 5 (.mv (.t 10))])
       (.seq (.ops [.a 11 (.mv (.t 1)),
 .a 12 (.mv (.t 0)),
 .a 13 (.mv (.t 5)),
 .a 14 (.idx 1 (.t 12) (.t 13)),
 .a 15 (.load1 (.t 14)),
 .a 16 (.call (.t 11) [(.t 15)])])
       (.cond (.t 16)
        (.seq (.ops [.a 17 (.mv (.t 5)),
 .a 4 (.mv (.t 17))])
        .ret)
        .skip))))
     (.ops [.a 18 (.bin .add (.t 8) (.c (.f (.v (.int .i64 1))))),
 .a 8 (.mv (.t 18))])))))))
  (.seq (.ops [.a 4 (.mv (.c (.f (.v (.int .i64 (-1))))))])
  .ret)))
theorem fn_int_IndexFunc : Fn Try.prog 83 19 [.t 4] s_int_IndexFunc := ⟨_, _, Try.func83, rfl, rfl, by kernel_rfl, by kernel_rfl⟩

/-- cutover.dag.order -/
def s_dag_order : SCode :=
  (.seq (.ops [.a 2 (.mv (.c (.f (.v (.slice none 0 0)))))])
  (.seq (.ops [.a 3 (.mv (.c (.f (.v (.slice none 0 0)))))])
  (.seq (.ops [.a 8 (.mv (.t 0)),
 .a 9 (.slen (.t 8)),
 .a 10 (.mkslice 4 1 1 [(.v (.bool false))] (.t 9) (.t 9)),
 .a 4 (.mv (.t 10))])
  (.seq (.seq (.ops [.a 11 (.mv (.t 0)),
 .a 12 (.slen (.t 11)),
 .a 13 (.mv (.c (.f (.v (.int .i64 0)))))])
   (.block 0 (.loop
     (.seq (.ops [.a 14 (.bin .lss (.t 13) (.t 12))])
     (.seq (.cond (.t 14)
       .skip
       (.exit 0))
     (.seq (.block 1 (.seq (.ops [.a 5 (.mv (.c (.f (.v (.int .i64 (-1))))))])
       (.seq (.seq (.ops [.a 15 (.mv (.t 0)),
 .a 16 (.slen (.t 15)),
 .a 17 (.mv (.c (.f (.v (.int .i64 0)))))])
        (.block 2 (.loop
          (.seq (.ops [.a 18 (.bin .lss (.t 17) (.t 16))])
          (.seq (.cond (.t 18)
            .skip
            (.exit 2))
          (.seq (.block 3 (.seq (.ops [.a 19 (.mv (.t 17)),
 .a 20 (.idx 3 (.t 15) (.t 17)),
 .a 21 (.loadA 3 (.t 20)),
 .a 7 (.alloc 30 [(.f (.v (.slice none 0 0))), (.f (.v (.int .i64 0))), (.f (.v (.int .i64 0)))]),
 .a 6 (.mv (.t 19)),
 .n (.store 3 (.t 7) (.t 21))])
            (.seq (.ops ([.a 22 (.mv (.t 5)),
 .a 23 (.bin .lss (.t 22) (.c (.f (.v (.int .i64 0)))))] ++
 ([.a 24 (.mv (.t 23)),
 .g (some 25) (.mv (.t 4)) 24 true] ++
 ([.g (some 26) (.mv (.t 6)) 24 true,
 .g (some 27) (.idx 1 (.t 25) (.t 26)) 24 true,
 .g (some 28) (.load1 (.t 27)) 24 true,
 .g (some 29) (.unot (.t 28)) 24 true,
 .a 30 (.pick (.t 24) (.t 29) (.c (.f (.v (.bool false))))),
 .a 31 (.mv (.t 30)),
 .g (some 32) (.off 0 (.t 7)) 31 true] ++
 ([.g (some 33) (.load1 (.t 32)) 31 true,
 .g (some 34) (.mv (.t 4)) 31 true,
 .g (some 35) (.call (.c (.fn 61 [])) [(.t 33), (.t 34)]) 31 true] ++
 ([.a 36 (.pick (.t 31) (.t 35) (.c (.f (.v (.bool false)))))]))))))
            (.cond (.t 36)
             (.ops [.a 37 (.mv (.t 6)),
 .a 5 (.mv (.t 37))])
             .skip))))
          (.ops [.a 38 (.bin .add (.t 17) (.c (.f (.v (.int .i64 1))))),
 .a 17 (.mv (.t 38))])))))))
       (.seq (.seq (.ops [.a 39 (.mv (.t 5)),
 .a 40 (.bin .lss (.t 39) (.c (.f (.v (.int .i64 0)))))])
        (.cond (.t 40)
         (.exit 0)
         .skip))
       (.seq (.ops [.a 41 (.mv (.t 4)),
 .a 42 (.mv (.t 5)),
 .a 43 (.idx 1 (.t 41) (.t 42)),
 .n (.store 1 (.t 43) (.c (.f (.v (.bool true)))))])
       (.ops ([.a 44 (.mv (.t 3)),
 .a 45 (.mv (.t 5)),
 .a 46 (.bsl 3 1 1 [(.f (.v (.int .i64 0)))] [(0, (.t 45))]),
 .a 47 (.app 3 1 8 (.t 44) (.t 46))] ++
 ([.a 3 (.mv (.t 47))]))))))))
     (.ops [.a 48 (.bin .add (.t 13) (.c (.f (.v (.int .i64 1))))),
 .a 13 (.mv (.t 48))])))))))
  (.seq (.ops [.a 49 (.mv (.t 3)),
 .a 2 (.mv (.t 49))])
  .ret)))))
theorem fn_dag_order : Fn Try.prog 43 50 [.t 2] s_dag_order := ⟨_, _, Try.func43, rfl, rfl, by kernel_rfl, by kernel_rfl⟩

/-- cutover.dag.Order -/
def s_dag_Order : SCode :=
  (.seq (.ops [.a 2 (.mv (.c (.f (.v (.slice none 0 0))))),
 .a 3 (.mv (.c (.f (.v (.bool false)))))])
  (.seq (.seq (.ops ([.a 4 (.mv (.t 0)),
 .a 5 (.call (.c (.fn 9 [])) [(.t 4)])] ++
 ([.a 6 (.bin .neq (.t 5) (.c (.f (.v (.int .i64 0)))))])))
   (.cond (.t 6)
    (.seq (.ops [.a 2 (.mv (.c (.f (.v (.slice none 0 0))))),
 .a 3 (.mv (.c (.f (.v (.bool false)))))])
    .ret)
    .skip))
  (.seq (.ops ([.a 7 (.mv (.t 0)),
 .a 8 (.call (.c (.fn 43 [])) [(.t 7)])] ++
 ([.a 2 (.mv (.t 8)),
 .a 3 (.mv (.c (.f (.v (.bool true)))))])))
  .ret)))
theorem fn_dag_Order : Fn Try.prog 11 9 [.t 2, .t 3] s_dag_Order := ⟨_, _, Try.func11, rfl, rfl, by kernel_rfl, by kernel_rfl⟩

/-- cutover.dag.Check -/
def s_dag_Check : SCode :=
  (.seq (.ops [.a 2 (.mv (.c (.f (.v (.int .i64 0)))))])
  (.seq (.seq (.ops ([.a 5 (.mv (.t 0)),
 .a 6 (.slen (.t 5)),
 .a 7 (.bin .lss (.t 6) (.c (.f (.v (.int .i64 1)))))] ++
 ([.a 8 (.mv (.t 7)),
 .g (some 9) (.mv (.t 0)) 8 false] ++
 ([.g (some 10) (.slen (.t 9)) 8 false,
 .g (some 11) (.bin .gtr (.t 10) (.c (.f (.v (.int .i64 8))))) 8 false] ++
 ([.a 12 (.pick (.t 8) (.c (.f (.v (.bool true)))) (.t 11))])))))
   (.cond (.t 12)
    (.seq (.ops [.a 2 (.mv (.c (.f (.v (.int .i64 1)))))])
    .ret)
    .skip))
  (.seq (.seq (.ops [.a 13 (.mv (.t 0)),
 .a 14 (.slen (.t 13)),
 .a 15 (.mv (.c (.f (.v (.int .i64 0)))))])
   (.block 0 (.loop
     (.seq (.ops [.a 16 (.bin .lss (.t 15) (.t 14))])
     (.seq (.cond (.t 16)
       .skip
       (.exit 0))
     (.seq (.block 1 (.seq (.ops [.a 17 (.idx 3 (.t 13) (.t 15)),
 .a 18 (.loadA 3 (.t 17)),
 .a 4 (.alloc 30 [(.f (.v (.slice none 0 0))), (.f (.v (.int .i64 0))), (.f (.v (.int .i64 0)))]),
 .n (.store 3 (.t 4) (.t 18))])
       (.seq (.ops ([.a 19 (.loadA 3 (.t 4)),
 .a 20 (.mv (.t 0)),
 .a 21 (.slen (.t 20)),
 .a 22 (.call (.c (.fn 42 [])) [(.t 19), (.t 21)])] ++
 ([.a 23 (.unot (.t 22))])))
       (.cond (.t 23)
        (.seq (.ops [.a 2 (.mv (.c (.f (.v (.int .i64 1)))))])
        .ret)
        .skip))))
     (.ops [.a 24 (.bin .add (.t 15) (.c (.f (.v (.int .i64 1))))),
 .a 15 (.mv (.t 24))])))))))
  (.seq (.seq (.ops ([.a 25 (.mv (.t 0)),
 .a 26 (.call (.c (.fn 43 [])) [(.t 25)])] ++
 ([.a 27 (.slen (.t 26)),
 .a 28 (.mv (.t 0)),
 .a 29 (.slen (.t 28)),
 .a 30 (.bin .lss (.t 27) (.t 29))])))
   (.cond (.t 30)
    (.seq (.ops [.a 2 (.mv (.c (.f (.v (.int .i64 9)))))])
    .ret)
    .skip))
  (.seq (.ops [.a 2 (.mv (.c (.f (.v (.int .i64 0)))))])
  .ret)))))
theorem fn_dag_Check : Fn Try.prog 9 31 [.t 2] s_dag_Check := ⟨_, _, Try.func9, rfl, rfl, by kernel_rfl, by kernel_rfl⟩

/-- cutover.dag.Ready -/
def s_dag_Ready : SCode :=
  (.seq (.ops [.a 4 (.mv (.c (.f (.v (.slice none 0 0)))))])
  (.seq (.ops [.a 5 (.mv (.c (.f (.v (.slice none 0 0)))))])
  (.seq (.seq (.ops ([.a 8 (.mv (.t 0)),
 .a 9 (.call (.c (.fn 9 [])) [(.t 8)])] ++
 ([.a 10 (.bin .neq (.t 9) (.c (.f (.v (.int .i64 0)))))])))
   (.cond (.t 10)
    (.seq (.ops [.a 4 (.mv (.c (.f (.v (.slice none 0 0)))))])
    .ret)
    .skip))
  (.seq (.seq (.ops [.a 11 (.mv (.t 0)),
 .a 12 (.slen (.t 11)),
 .a 13 (.mv (.c (.f (.v (.int .i64 0)))))])
   (.block 0 (.loop
     (.seq (.ops [.a 14 (.bin .lss (.t 13) (.t 12))])
     (.seq (.cond (.t 14)
       .skip
       (.exit 0))
     (.seq (.block 1 (.seq (.ops [.a 15 (.mv (.t 13)),
 .a 16 (.idx 3 (.t 11) (.t 13)),
 .a 17 (.loadA 3 (.t 16)),
 .a 7 (.alloc 30 [(.f (.v (.slice none 0 0))), (.f (.v (.int .i64 0))), (.f (.v (.int .i64 0)))]),
 .a 6 (.mv (.t 15)),
 .n (.store 3 (.t 7) (.t 17))])
       (.seq (.ops ([.a 18 (.mv (.t 6)),
 .a 19 (.mv (.t 1)),
 .a 20 (.slen (.t 19)),
 .a 21 (.bin .geq (.t 18) (.t 20))] ++
 ([.a 22 (.mv (.t 21)),
 .g (some 23) (.mv (.t 1)) 22 false] ++
 ([.g (some 24) (.mv (.t 6)) 22 false,
 .g (some 25) (.idx 1 (.t 23) (.t 24)) 22 false,
 .g (some 26) (.load1 (.t 25)) 22 false,
 .g (some 27) (.unot (.t 26)) 22 false,
 .a 28 (.pick (.t 22) (.c (.f (.v (.bool true)))) (.t 27)),
 .a 29 (.mv (.t 28)),
 .g (some 30) (.off 0 (.t 7)) 29 true] ++
 ([.g (some 31) (.load1 (.t 30)) 29 true,
 .g (some 32) (.mv (.t 1)) 29 true,
 .g (some 33) (.call (.c (.fn 61 [])) [(.t 31), (.t 32)]) 29 true] ++
 ([.a 34 (.pick (.t 29) (.t 33) (.c (.f (.v (.bool false)))))]))))))
       (.cond (.t 34)
        (.ops ([.a 35 (.mv (.t 5)),
 .a 36 (.mv (.t 6)),
 .a 37 (.bsl 3 1 1 [(.f (.v (.int .i64 0)))] [(0, (.t 36))]),
 .a 38 (.app 3 1 8 (.t 35) (.t 37))] ++
 ([.a 5 (.mv (.t 38))])))
        .skip))))
     (.ops [.a 39 (.bin .add (.t 13) (.c (.f (.v (.int .i64 1))))),
 .a 13 (.mv (.t 39))])))))))
  (.seq (.ops [.a 40 (.mv (.t 5)),
 .a 4 (.mv (.t 40))])
  .ret)))))
theorem fn_dag_Ready : Fn Try.prog 40 41 [.t 4] s_dag_Ready := ⟨_, _, Try.func40, rfl, rfl, by kernel_rfl, by kernel_rfl⟩

/-- cutover.dag.Depth -/
def s_dag_Depth : SCode :=
  (.seq (.ops [.a 2 (.mv (.c (.f (.v (.int .i64 0)))))])
  (.seq (.seq (.ops ([.a 8 (.mv (.t 0)),
 .a 9 (.call (.c (.fn 9 [])) [(.t 8)])] ++
 ([.a 10 (.bin .neq (.t 9) (.c (.f (.v (.int .i64 0)))))])))
   (.cond (.t 10)
    (.seq (.ops [.a 2 (.mv (.c (.f (.v (.int .i64 0)))))])
    .ret)
    .skip))
  (.seq (.ops [.a 11 (.mv (.t 0)),
 .a 12 (.slen (.t 11)),
 .a 13 (.mkslice 3 1 8 [(.v (.int .i64 0))] (.t 12) (.t 12)),
 .a 3 (.mv (.t 13))])
  (.seq (.seq (.ops ([.a 14 (.mv (.t 0)),
 .a 15 (.call (.c (.fn 43 [])) [(.t 14)])] ++
 ([.a 16 (.slen (.t 15)),
 .a 17 (.mv (.c (.f (.v (.int .i64 0)))))])))
   (.block 0 (.loop
     (.seq (.ops [.a 18 (.bin .lss (.t 17) (.t 16))])
     (.seq (.cond (.t 18)
       .skip
       (.exit 0))
     (.seq (.block 1 (.seq (.ops [.a 19 (.idx 1 (.t 15) (.t 17)),
 .a 20 (.load1 (.t 19)),
 .a 5 (.mv (.t 20))])
       (.seq (.seq (.ops [.a 21 (.mv (.t 0)),
 .a 22 (.mv (.t 5)),
 .a 23 (.idx 3 (.t 21) (.t 22)),
 .a 24 (.off 0 (.t 23)),
 .a 25 (.load1 (.t 24)),
 .a 26 (.slen (.t 25)),
 .a 27 (.mv (.c (.f (.v (.int .i64 0)))))])
        (.block 2 (.loop
          (.seq (.ops [.a 28 (.bin .lss (.t 27) (.t 26))])
          (.seq (.cond (.t 28)
            .skip
            (.exit 2))
          (.seq (.block 3 (.seq (.ops [.a 29 (.idx 1 (.t 25) (.t 27)),
 .a 30 (.load1 (.t 29)),
 .a 7 (.mv (.t 30))])
            (.drw [.a 31 (.mv (.t 3)),
              .a 32 (.mv (.t 5)),
              .a 33 (.mv (.t 3)),
              .a 34 (.mv (.t 5)),
              .a 35 (.idx 1 (.t 33) (.t 34)),
              .a 36 (.load1 (.t 35)),
              .a 37 (.mv (.t 3)),
              .a 38 (.mv (.t 7)),
              .a 39 (.idx 1 (.t 37) (.t 38)),
              .a 40 (.load1 (.t 39)),
              .a 41 (.mm true (.t 36) (.t 40)),
              .a 42 (.idx 1 (.t 31) (.t 32)),
              .n (.store 1 (.t 42) (.t 41))] [0, 0, 0, 0, 12, 28, 0, 0, 192, 448, 1020, 2047, 4095])))
          (.ops [.a 43 (.bin .add (.t 27) (.c (.f (.v (.int .i64 1))))),
 .a 27 (.mv (.t 43))])))))))
       (.ops [.a 44 (.mv (.t 3)),
 .a 45 (.mv (.t 5)),
 .a 46 (.idx 1 (.t 44) (.t 45)),
 .a 47 (.load1 (.t 46)),
 .a 48 (.bin .add (.t 47) (.c (.f (.v (.int .i64 1))))),
 .a 49 (.idx 1 (.t 44) (.t 45)),
 .n (.store 1 (.t 49) (.t 48))]))))
     (.ops [.a 50 (.bin .add (.t 17) (.c (.f (.v (.int .i64 1))))),
 .a 17 (.mv (.t 50))])))))))
  (.seq (.ops ([.a 51 (.mv (.t 3)),
 .a 52 (.call (.c (.fn 44 [])) [(.t 51)])] ++
 ([.a 2 (.mv (.t 52))])))
  .ret)))))
theorem fn_dag_Depth : Fn Try.prog 12 53 [.t 2] s_dag_Depth := ⟨_, _, Try.func12, rfl, rfl, by kernel_rfl, by kernel_rfl⟩

/-- cutover.dag.Ahead -/
def s_dag_Ahead : SCode :=
  (.seq (.ops [.a 4 (.mv (.c (.f (.v (.slice none 0 0)))))])
  (.seq (.seq (.ops ([.a 8 (.mv (.t 0)),
 .a 9 (.call (.c (.fn 9 [])) [(.t 8)])] ++
 ([.a 10 (.bin .neq (.t 9) (.c (.f (.v (.int .i64 0)))))] ++
 ([.a 11 (.mv (.t 10)),
 .g (some 12) (.mv (.t 1)) 11 false] ++
 ([.g (some 13) (.bin .lss (.t 12) (.c (.f (.v (.int .i64 0))))) 11 false] ++
 ([.a 14 (.pick (.t 11) (.c (.f (.v (.bool true)))) (.t 13)),
 .a 15 (.mv (.t 14)),
 .g (some 16) (.mv (.t 1)) 15 false] ++
 ([.g (some 17) (.mv (.t 0)) 15 false,
 .g (some 18) (.slen (.t 17)) 15 false,
 .g (some 19) (.bin .geq (.t 16) (.t 18)) 15 false] ++
 ([.a 20 (.pick (.t 15) (.c (.f (.v (.bool true)))) (.t 19))]))))))))
   (.cond (.t 20)
    (.seq (.ops [.a 4 (.mv (.c (.f (.v (.slice none 0 0)))))])
    .ret)
    .skip))
  (.seq (.ops [.a 5 (.mv (.c (.f (.v (.slice none 0 0)))))])
  (.seq (.ops ([.a 21 (.mv (.t 0)),
 .a 22 (.mv (.t 1)),
 .a 23 (.idx 3 (.t 21) (.t 22)),
 .a 24 (.off 0 (.t 23)),
 .a 25 (.load1 (.t 24)),
 .a 26 (.call (.c (.fn 45 [])) [(.t 25)])] ++
 ([.a 6 (.mv (.t 26))])))
  (.seq (.block 0 (.loop
     (.seq (.seq (.ops [.a 27 (.mv (.t 6)),
 .a 28 (.slen (.t 27)),
 .a 29 (.bin .gtr (.t 28) (.c (.f (.v (.int .i64 0)))))])
      (.cond (.t 29)
       .skip
       (.exit 0)))
     (.block 1 (.seq (.ops [.a 30 (.mv (.t 6)),
 .a 31 (.idx 1 (.t 30) (.c (.f (.v (.int .i64 0))))),
 .a 32 (.load1 (.t 31)),
 .a 7 (.mv (.t 32))])
      (.seq (.ops [.a 33 (.mv (.t 6)),
 .a 34 (.sub 1 3 (.t 33) (some (.c (.f (.v (.int .i64 1))))) none none),
 .a 6 (.mv (.t 34))])
      (.seq (.ops ([.a 35 (.mv (.t 5)),
 .a 36 (.mv (.t 7)),
 .a 37 (.call (.c (.fn 46 [])) [(.t 35), (.t 36)])] ++
 ([.a 38 (.unot (.t 37))])))
      (.cond (.t 38)
       (.seq (.ops ([.a 39 (.mv (.t 5)),
 .a 40 (.mv (.t 7)),
 .a 41 (.bsl 3 1 1 [(.f (.v (.int .i64 0)))] [(0, (.t 40))]),
 .a 42 (.app 3 1 8 (.t 39) (.t 41))] ++
 ([.a 5 (.mv (.t 42))])))
       (.ops ([.a 43 (.mv (.t 6)),
 .a 44 (.mv (.t 0)),
 .a 45 (.mv (.t 7)),
 .a 46 (.idx 3 (.t 44) (.t 45)),
 .a 47 (.off 0 (.t 46)),
 .a 48 (.load1 (.t 47)),
 .a 49 (.app 3 1 8 (.t 43) (.t 48))] ++
 ([.a 6 (.mv (.t 49))]))))
       .skip))))))))
  (.seq (.ops [.a 50 (.mv (.t 5)),
 .a 51 (.call (.c (.fn 47 [])) [(.t 50)])])
  (.seq (.ops [.a 52 (.mv (.t 5)),
 .a 4 (.mv (.t 52))])
  .ret)))))))
theorem fn_dag_Ahead : Fn Try.prog 13 53 [.t 4] s_dag_Ahead := ⟨_, _, Try.func13, rfl, rfl, by kernel_rfl, by kernel_rfl⟩

/-- slices.Clone[[]int,int] -/
def s_int_Clone : SCode :=
  (.seq (.ops [.a 2 (.mv (.c (.f (.v (.slice none 0 0)))))])
  (.seq (.seq (.ops [.a 3 (.mv (.t 0)),
 .a 4 (.nilq true 0 (.t 3) (.c (.f (.v (.slice none 0 0)))))])
   (.cond (.t 4)
    (.seq (.ops [.a 2 (.mv (.c (.f (.v (.slice none 0 0)))))])
    .ret)
    .skip))
  (.seq (.ops ([.a 5 (.bsl 3 1 0 [] []),
 .a 6 (.mv (.t 0)),
 .a 7 (.app 3 1 8 (.t 5) (.t 6))] ++
 ([.a 2 (.mv (.t 7))])))
  .ret)))
theorem fn_int_Clone : Fn Try.prog 45 8 [.t 2] s_int_Clone := ⟨_, _, Try.func45, rfl, rfl, by kernel_rfl, by kernel_rfl⟩

/-- slices.Contains[[]int,int] -/
def s_int_Contains : SCode :=
  (.seq (.ops [.a 4 (.mv (.c (.f (.v (.bool false)))))])
  (.seq (.ops ([.a 5 (.mv (.t 0)),
 .a 6 (.mv (.t 1)),
 .a 7 (.call (.c (.fn 63 [])) [(.t 5), (.t 6)])] ++
 ([.a 8 (.bin .geq (.t 7) (.c (.f (.v (.int .i64 0)))))] ++
 ([.a 4 (.mv (.t 8))]))))
  .ret))
theorem fn_int_Contains : Fn Try.prog 46 9 [.t 4] s_int_Contains := ⟨_, _, Try.func46, rfl, rfl, by kernel_rfl, by kernel_rfl⟩

/-- slices.Index[[]int,int] -/
def s_int_Index : SCode :=
  (.seq (.ops [.a 4 (.mv (.c (.f (.v (.int .i64 0)))))])
  (.seq (.seq (.ops [.a 6 (.mv (.t 0)),
 .a 7 (.slen (.t 6)),
 .a 8 (.mv (.c (.f (.v (.int .i64 0)))))])
   (.block 0 (.loop
     (.seq (.ops [.a 9 (.bin .lss (.t 8) (.t 7))])
     (.seq (.cond (.t 9)
       .skip
       (.exit 0))
     (.seq (.block 1 (.seq (.ops [.a 10 (.mv (.t 8)),
 .a 5 (.mv (.t 10))])
       (.seq (.ops [.a 11 (.mv (.t 1)),
 .a 12 (.mv (.t 0)),
 .a 13 (.mv (.t 5)),
 .a 14 (.idx 1 (.t 12) (.t 13)),
 .a 15 (.load1 (.t 14)),
 .a 16 (.bin .eql (.t 11) (.t 15))])
       (.cond (.t 16)
        (.seq (.ops [.a 17 (.mv (.t 5)),
 .a 4 (.mv (.t 17))])
        .ret)
        .skip))))
     (.ops [.a 18 (.bin .add (.t 8) (.c (.f (.v (.int .i64 1))))),
 .a 8 (.mv (.t 18))])))))))
  (.seq (.ops [.a 4 (.mv (.c (.f (.v (.int .i64 (-1))))))])
  .ret)))
theorem fn_int_Index : Fn Try.prog 63 19 [.t 4] s_int_Index := ⟨_, _, Try.func63, rfl, rfl, by kernel_rfl, by kernel_rfl⟩

def rawsOf_CDag : SCode → List Oper
  | .ops l => l.filterMap fun i => match i.op with | .raw o => some o | _ => none
  | .drw l _ => l.filterMap fun i => match i.op with | .raw o => some o | _ => none
  | .seq a b => rawsOf_CDag a ++ rawsOf_CDag b
  | .cond _ a b => rawsOf_CDag a ++ rawsOf_CDag b
  | .block _ a => rawsOf_CDag a
  | .loop a => rawsOf_CDag a
  | _ => []
def rawAt_CDag (P : Program) (f : FuncId) (k : Nat) : SOp := (((P.funcs[f]?).bind fun fn => fn.body).bind fun b => (rawsOf_CDag (compC P b))[k]?).elim (.mv (.t 0)) .raw

/-- slices.Max[[]int,int] -/
def s_int_Max (P : Program) : SCode :=
  (.seq (.ops [.a 2 (.mv (.c (.f (.v (.int .i64 0)))))])
  (.seq (.seq (.ops [.a 5 (.mv (.t 0)),
 .a 6 (.slen (.t 5)),
 .a 7 (.bin .lss (.t 6) (.c (.f (.v (.int .i64 1)))))])
   (.cond (.t 7)
    (.ops [.a 8 (rawAt_CDag P 44 0),
 .n (rawAt_CDag P 44 1)])
    .skip))
  (.seq (.ops [.a 9 (.mv (.t 0)),
 .a 10 (.idx 1 (.t 9) (.c (.f (.v (.int .i64 0))))),
 .a 11 (.load1 (.t 10)),
 .a 3 (.mv (.t 11))])
  (.seq (.seq (.ops [.a 4 (.mv (.c (.f (.v (.int .i64 1)))))])
   (.block 0 (.loop
     (.seq (.seq (.ops [.a 12 (.mv (.t 4)),
 .a 13 (.mv (.t 0)),
 .a 14 (.slen (.t 13)),
 .a 15 (.bin .lss (.t 12) (.t 14))])
      (.cond (.t 15)
       .skip
       (.exit 0)))
     (.seq (.block 1 (.ops [.a 18 (.mv (.t 3)),
 .a 19 (.mv (.t 0)),
 .a 20 (.mv (.t 4)),
 .a 21 (.idx 1 (.t 19) (.t 20)),
 .a 22 (.load1 (.t 21)),
 .a 23 (.mm true (.t 18) (.t 22)),
 .a 3 (.mv (.t 23))]))
     (.ops [.a 16 (.mv (.t 4)),
 .a 17 (.bin .add (.t 16) (.c (.f (.v (.int .i64 1))))),
 .a 4 (.mv (.t 17))]))))))
  (.seq (.ops [.a 24 (.mv (.t 3)),
 .a 2 (.mv (.t 24))])
  .ret)))))
theorem fn_int_Max : Fn Try.prog 44 25 [.t 2] (s_int_Max Try.prog) := ⟨_, _, Try.func44, rfl, rfl, by kernel_rfl, by kernel_rfl⟩

end Go.Proofs.Ytjbkckhpoicaeaa.Mir

/- The program's graphs: their contracts over plain lists: right, met. -/
namespace Go.Proofs.Ytjbkckhpoicaeaa.Mir
open Go Go.RowKit
set_option linter.unusedVariables false
set_option linter.unusedSimpArgs false
set_option maxHeartbeats 1000000

def rise (n : Int) : Int → List Int → Bool
  | _, [] => true
  | last, x :: xs => decide (last < x) && decide (x < n) && rise n x xs
def rightB (d : Nd) (n : Int) : Bool := rise n (-1) d.ns && (decide (1 ≤ d.tr) && decide (d.tr ≤ 5) && decide (1 ≤ d.le) && decide (d.le ≤ 1048576))
def ndD (d : Nd) : D := .ag [.f (fI d.ns), D.int d.tr, D.int d.le]

theorem c_dag_right (d : Nd) (n : Int) (hl : d.ns.length < 1000000) : Con Try.prog 42 [ndD d, D.int n] [] fun r H' => r = D.bool (rightB d n) ∧ H' = [] := by
  obtain ⟨ns, tr, le⟩ := d
  dsimp only at hl
  refine Con.walk good fn_dag_right (by simp) ?_
  unfold s_dag_right
  simp only [argsE, List.length_nil, Nat.reduceAdd]
  repeat' (first | (with_reducible first | refine r1 ?_ | refine rK fun K hK => ?_ | refine wpS_app fun K hK => ?_ | (refine hK _ ?_; clear hK K) | refine rL fun K hK => ?_) | ((with_reducible refine And.intro (Chk.mk' ?_) ?_); kernel_rfl) | ((with_reducible refine HS.cond1 ?_ ?_); rfl) | ((with_reducible refine HS.cond0 ?_ ?_); rfl) | ((with_reducible apply HS.condB) <;> first | rfl | (with_reducible intro h)) | (with_reducible first | refine r2 ?_ | refine r3 ?_ | refine r4 ?_ | refine r5 ?_ | refine r6 ?_ | refine r7 ?_ | refine r8 ?_ | refine r9 ?_ | refine rA ?_ | refine rB ?_ | refine rC ?_ | refine rD ?_) | ((with_reducible refine blockQ_miss ?_ ?_); rfl) | (with_reducible refine Two.mk' (fun h => ?_) (fun h => ?_) <;> try (exfalso; omega)) | ((with_reducible refine Bsel.mk' (fun h => ?_) (fun h => ?_)) <;> (try simp only [h])) | ((fail_if_success (with_reducible first | refine s1 ?_ | refine s2 ?_ | refine s3 ?_ | refine s4 ?_ | refine s5 ?_ | refine s6 ?_ | refine s7 ?_ | refine s8 ?_ | refine s9 ?_)); simp (disch := omega) only [↓LD, LU, LS, LT, loadA_rf, ↓reduceIte, reduceCtorEq, Nat.reduceAdd, Nat.reduceMul, Nat.reduceSub, Nat.reduceLeDiff, Nat.reduceLT, Nat.reduceEqDiff, Int.reduceNeg, Int.reduceLT, Int.reduceLE, Int.reduceEq, Int.reduceToNat, fI, ndD]) | ((with_reducible refine And.intro ?_ ?_); omega) | ((fail_if_success (with_reducible first | refine s1 ?_ | refine s2 ?_ | refine s3 ?_ | refine s4 ?_ | refine s5 ?_ | refine s6 ?_ | refine s7 ?_ | refine s8 ?_ | refine s9 ?_)); simp only [D.int, D.bool]))
  refine HS.loopP (fun x : Nat × Int => [(1, D.int n), (2, .pt 0 0), (4, D.bool false), (5, D.int x.2), (9, .f (fI ns)), (10, D.int ns.length), (11, D.int x.1)]) (fun _ => [.box 30 [.f (fI ns), D.int tr, D.int le]])
    (fun x => x.1 ≤ ns.length ∧ rise n (-1) ns = rise n x.2 (ns.drop x.1)) (fun x => ns.length - x.1) (0, -1) rfl (by kernel_rfl) ⟨Nat.zero_le _, rfl⟩ ?_
  rintro ⟨k, z⟩ ⟨hk, hr⟩
  dsimp only at hk hr
  repeat' (first | (with_reducible first | refine r1 ?_ | refine rK fun K hK => ?_ | refine wpS_app fun K hK => ?_ | (refine hK _ ?_; clear hK K) | refine rL fun K hK => ?_) | ((with_reducible refine And.intro (Chk.mk' ?_) ?_); kernel_rfl) | ((with_reducible refine HS.cond1 ?_ ?_); rfl) | ((with_reducible refine HS.cond0 ?_ ?_); rfl) | ((with_reducible apply HS.condB) <;> first | rfl | (with_reducible intro h)) | (with_reducible first | refine r2 ?_ | refine r3 ?_ | refine r4 ?_ | refine r5 ?_ | refine r6 ?_ | refine r7 ?_ | refine r8 ?_ | refine r9 ?_ | refine rA ?_ | refine rB ?_ | refine rC ?_ | refine rD ?_) | ((with_reducible refine blockQ_miss ?_ ?_); rfl) | (with_reducible refine Two.mk' (fun h => ?_) (fun h => ?_) <;> try (exfalso; omega)) | ((with_reducible refine Bsel.mk' (fun h => ?_) (fun h => ?_)) <;> (try simp only [h])) | ((fail_if_success (with_reducible first | refine s1 ?_ | refine s2 ?_ | refine s3 ?_ | refine s4 ?_ | refine s5 ?_ | refine s6 ?_ | refine s7 ?_ | refine s8 ?_ | refine s9 ?_)); simp (disch := omega) only [↓LD, LU, LS, LT, loadA_rf, ↓reduceIte, reduceCtorEq, Nat.reduceAdd, Nat.reduceMul, Nat.reduceSub, Nat.reduceLeDiff, Nat.reduceLT, Nat.reduceEqDiff, Int.reduceNeg, Int.reduceLT, Int.reduceLE, Int.reduceEq, Int.reduceToNat, fI]) | ((with_reducible refine And.intro ?_ ?_); omega) | ((fail_if_success (with_reducible first | refine s1 ?_ | refine s2 ?_ | refine s3 ?_ | refine s4 ?_ | refine s5 ?_ | refine s6 ?_ | refine s7 ?_ | refine s8 ?_ | refine s9 ?_)); simp only [D.int, D.bool]))
  all_goals first
    | (refine end1 rfl rfl (by kernel_rfl) .f ⟨congrArg D.bool ?_, rfl⟩
       first
        | (rw [rightB, hr, drop_gt (by omega), rise]; simp; omega)
        | (rw [rightB, hr, List.drop_of_length_le (by omega)]; simp [rise]; omega))
    | (refine NextP.mk (k + 1, gt ns k) rfl (by kernel_rfl) ?_ ?_
       · refine ⟨by dsimp only; omega, ?_⟩
         rw [hr, drop_gt (by omega)]; simp [rise]; omega
       · dsimp only; omega)

/-- Is a node among those that are done? -/
def inB (done : List Bool) (x : Int) : Bool := decide (x < done.length) && gt done x.toNat
def metB (done : List Bool) (ns : List Int) : Bool := ns.all (inB done)
theorem c_dag_met1 (done : List Bool) (x : Int) (hx : 0 ≤ x) (hl : done.length < 140737488355328) : Con Try.prog 70 [D.int x, .pt 0 0] [.box 59 [.f (fB done)]] fun r H' => r = D.bool (!inB done x) ∧ H' = [.box 59 [.f (fB done)]] := by
  refine Con.walk good fn_dag_met1 (by simp) ?_
  unfold s_dag_met1
  simp only [argsE, List.length_cons, List.length_nil, Nat.reduceAdd]
  repeat' (first | (with_reducible first | refine r1 ?_ | refine rK fun K hK => ?_ | refine wpS_app fun K hK => ?_ | (refine hK _ ?_; clear hK K) | refine rL fun K hK => ?_) | ((with_reducible refine And.intro (Chk.mk' ?_) ?_); kernel_rfl) | ((with_reducible refine HS.cond1 ?_ ?_); rfl) | ((with_reducible refine HS.cond0 ?_ ?_); rfl) | ((with_reducible apply HS.condB) <;> first | rfl | (with_reducible intro h)) | (with_reducible first | refine r2 ?_ | refine r3 ?_ | refine r4 ?_ | refine r5 ?_ | refine r6 ?_ | refine r7 ?_ | refine r8 ?_ | refine r9 ?_ | refine rA ?_ | refine rB ?_ | refine rC ?_ | refine rD ?_) | ((with_reducible refine blockQ_miss ?_ ?_); rfl) | (with_reducible refine Two.mk' (fun h => ?_) (fun h => ?_) <;> try (exfalso; omega)) | ((with_reducible refine Bsel.mk' (fun h => ?_) (fun h => ?_)) <;> (try simp only [h])) | ((fail_if_success (with_reducible first | refine s1 ?_ | refine s2 ?_ | refine s3 ?_ | refine s4 ?_ | refine s5 ?_ | refine s6 ?_ | refine s7 ?_ | refine s8 ?_ | refine s9 ?_)); simp (disch := omega) only [↓LD, LU, LS, LT, loadA_rf, ↓reduceIte, reduceCtorEq, Nat.reduceAdd, Nat.reduceMul, Nat.reduceSub, Nat.reduceLeDiff, Nat.reduceLT, Nat.reduceEqDiff, Int.reduceNeg, Int.reduceLT, Int.reduceLE, Int.reduceEq, Int.reduceToNat, fB]) | ((with_reducible refine And.intro ?_ ?_); omega) | ((fail_if_success (with_reducible first | refine s1 ?_ | refine s2 ?_ | refine s3 ?_ | refine s4 ?_ | refine s5 ?_ | refine s6 ?_ | refine s7 ?_ | refine s8 ?_ | refine s9 ?_)); simp only [D.int, D.bool]))
  · refine endA rfl rfl ⟨congrArg D.bool ?_, rfl⟩
    simp [inB]; omega
  · refine endA rfl rfl ⟨congrArg D.bool ?_, rfl⟩
    have h1 : x < done.length := by omega
    simp [inB, h1]

/-- The first place of which a test says yes; -1. -/
def idxF {α : Type} (p : α → Bool) : Nat → List α → Int
  | _, [] => -1
  | i, x :: xs => if p x then i else idxF p (i + 1) xs
theorem idxF_any {α : Type} (p : α → Bool) : ∀ (i : Nat) (l : List α), decide (0 ≤ idxF p i l) = l.any p
  | _, [] => rfl
  | i, x :: xs => by
    simp only [idxF, List.any_cons]
    split
    · rename_i h; simp [h]
    · rename_i h; rw [idxF_any p (i + 1) xs]; simp [h]
theorem gt_mem {α : Type} [Inhabited α] {l : List α} {k : Nat} (h : k < l.length) : gt l k ∈ l := by rw [gt_eq h]; exact List.getElem_mem h
theorem c_int_IndexFunc (l : List Int) (g : FuncId) (caps : List D) (H : List Row) (p : Int → Bool) (hl : l.length < 1000000)
    (hf : ∀ x ∈ l, Con Try.prog g (D.int x :: caps) H fun r H' => r = D.bool (p x) ∧ H' = H) : Con Try.prog 83 [.f (fI l), .fn g caps] H fun r H' => r = D.int (idxF p 0 l) ∧ H' = H := by
  refine Con.walk good fn_int_IndexFunc (by simp) ?_
  unfold s_int_IndexFunc
  simp only [argsE, List.length_cons, List.length_nil, Nat.reduceAdd]
  repeat' (first | (with_reducible first | refine r1 ?_ | refine rK fun K hK => ?_ | refine wpS_app fun K hK => ?_ | (refine hK _ ?_; clear hK K) | refine rL fun K hK => ?_) | ((with_reducible refine And.intro (Chk.mk' ?_) ?_); kernel_rfl) | ((with_reducible refine HS.cond1 ?_ ?_); rfl) | ((with_reducible refine HS.cond0 ?_ ?_); rfl) | ((with_reducible apply HS.condB) <;> first | rfl | (with_reducible intro h)) | (with_reducible first | refine r2 ?_ | refine r3 ?_ | refine r4 ?_ | refine r5 ?_ | refine r6 ?_ | refine r7 ?_ | refine r8 ?_ | refine r9 ?_ | refine rA ?_ | refine rB ?_ | refine rC ?_ | refine rD ?_) | ((with_reducible refine blockQ_miss ?_ ?_); rfl) | (with_reducible refine Two.mk' (fun h => ?_) (fun h => ?_) <;> try (exfalso; omega)) | ((with_reducible refine Bsel.mk' (fun h => ?_) (fun h => ?_)) <;> (try simp only [h])) | ((fail_if_success (with_reducible first | refine s1 ?_ | refine s2 ?_ | refine s3 ?_ | refine s4 ?_ | refine s5 ?_ | refine s6 ?_ | refine s7 ?_ | refine s8 ?_ | refine s9 ?_)); simp (disch := omega) only [↓LD, LU, LS, LT, loadA_rf, ↓reduceIte, reduceCtorEq, Nat.reduceAdd, Nat.reduceMul, Nat.reduceSub, Nat.reduceLeDiff, Nat.reduceLT, Nat.reduceEqDiff, Int.reduceNeg, Int.reduceLT, Int.reduceLE, Int.reduceEq, Int.reduceToNat, fI]) | ((with_reducible refine And.intro ?_ ?_); omega) | ((fail_if_success (with_reducible first | refine s1 ?_ | refine s2 ?_ | refine s3 ?_ | refine s4 ?_ | refine s5 ?_ | refine s6 ?_ | refine s7 ?_ | refine s8 ?_ | refine s9 ?_)); simp only [D.int, D.bool]))
  refine HS.loopP (fun x : Nat => [(0, .f (fI l)), (1, .fn g caps), (7, D.int l.length), (8, D.int x)]) (fun _ => H)
    (fun x => x ≤ l.length ∧ idxF p 0 l = idxF p x (l.drop x)) (fun x => l.length - x) 0 rfl (by kernel_rfl) ⟨Nat.zero_le _, rfl⟩ ?_
  rintro k ⟨hk, hr⟩
  repeat' (first | (with_reducible first | refine r1 ?_ | refine rK fun K hK => ?_ | refine wpS_app fun K hK => ?_ | (refine hK _ ?_; clear hK K) | refine rL fun K hK => ?_) | ((with_reducible refine And.intro (Chk.mk' ?_) ?_); kernel_rfl) | ((with_reducible refine HS.cond1 ?_ ?_); rfl) | ((with_reducible refine HS.cond0 ?_ ?_); rfl) | ((with_reducible apply HS.condB) <;> first | rfl | (with_reducible intro h)) | (with_reducible first | refine r2 ?_ | refine r3 ?_ | refine r4 ?_ | refine r5 ?_ | refine r6 ?_ | refine r7 ?_ | refine r8 ?_ | refine r9 ?_ | refine rA ?_ | refine rB ?_ | refine rC ?_ | refine rD ?_) | ((with_reducible refine blockQ_miss ?_ ?_); rfl) | (with_reducible refine Two.mk' (fun h => ?_) (fun h => ?_) <;> try (exfalso; omega)) | ((with_reducible refine Bsel.mk' (fun h => ?_) (fun h => ?_)) <;> (try simp only [h])) | ((fail_if_success (with_reducible first | refine s1 ?_ | refine s2 ?_ | refine s3 ?_ | refine s4 ?_ | refine s5 ?_ | refine s6 ?_ | refine s7 ?_ | refine s8 ?_ | refine s9 ?_)); simp (disch := omega) only [↓LD, LU, LS, LT, loadA_rf, ↓reduceIte, reduceCtorEq, Nat.reduceAdd, Nat.reduceMul, Nat.reduceSub, Nat.reduceLeDiff, Nat.reduceLT, Nat.reduceEqDiff, Int.reduceNeg, Int.reduceLT, Int.reduceLE, Int.reduceEq, Int.reduceToNat, fI]) | ((with_reducible refine And.intro ?_ ?_); omega) | ((fail_if_success (with_reducible first | refine s1 ?_ | refine s2 ?_ | refine s3 ?_ | refine s4 ?_ | refine s5 ?_ | refine s6 ?_ | refine s7 ?_ | refine s8 ?_ | refine s9 ?_)); simp only [D.int, D.bool]))
  rotate_left
  · refine endA rfl rfl ⟨congrArg D.int ?_, rfl⟩
    rw [hr, List.drop_of_length_le (by omega)]; rfl
  refine callW_self (hf _ (gt_mem (by omega))) ?_
  rintro _ H' ⟨rfl, hH⟩
  rw [hH]; clear hH H'
  repeat' (first | (with_reducible first | refine r1 ?_ | refine rK fun K hK => ?_ | refine wpS_app fun K hK => ?_ | (refine hK _ ?_; clear hK K) | refine rL fun K hK => ?_) | ((with_reducible refine And.intro (Chk.mk' ?_) ?_); kernel_rfl) | ((with_reducible refine HS.cond1 ?_ ?_); rfl) | ((with_reducible refine HS.cond0 ?_ ?_); rfl) | ((with_reducible apply HS.condB) <;> first | rfl | (with_reducible intro h)) | (with_reducible first | refine r2 ?_ | refine r3 ?_ | refine r4 ?_ | refine r5 ?_ | refine r6 ?_ | refine r7 ?_ | refine r8 ?_ | refine r9 ?_ | refine rA ?_ | refine rB ?_ | refine rC ?_ | refine rD ?_) | ((with_reducible refine blockQ_miss ?_ ?_); rfl) | (with_reducible refine Two.mk' (fun h => ?_) (fun h => ?_) <;> try (exfalso; omega)) | ((with_reducible refine Bsel.mk' (fun h => ?_) (fun h => ?_)) <;> (try simp only [h])) | ((fail_if_success (with_reducible first | refine s1 ?_ | refine s2 ?_ | refine s3 ?_ | refine s4 ?_ | refine s5 ?_ | refine s6 ?_ | refine s7 ?_ | refine s8 ?_ | refine s9 ?_)); simp (disch := omega) only [↓LD, LU, LS, LT, loadA_rf, ↓reduceIte, reduceCtorEq, Nat.reduceAdd, Nat.reduceMul, Nat.reduceSub, Nat.reduceLeDiff, Nat.reduceLT, Nat.reduceEqDiff, Int.reduceNeg, Int.reduceLT, Int.reduceLE, Int.reduceEq, Int.reduceToNat, D.bool]) | ((with_reducible refine And.intro ?_ ?_); omega) | ((fail_if_success (with_reducible first | refine s1 ?_ | refine s2 ?_ | refine s3 ?_ | refine s4 ?_ | refine s5 ?_ | refine s6 ?_ | refine s7 ?_ | refine s8 ?_ | refine s9 ?_)); simp only [D.int, D.bool]))
  · refine endA rfl rfl ⟨congrArg D.int ?_, rfl⟩
    rw [hr, drop_gt (by omega), idxF, if_pos h]
  · refine NextP.mk (k + 1) rfl (by kernel_rfl) ?_ ?_
    · refine ⟨by omega, ?_⟩
      rw [hr, drop_gt (by omega), idxF, if_neg (by simp [h])]
    · omega
theorem c_int_ContainsFunc (l : List Int) (g : FuncId) (caps : List D) (H : List Row) (p : Int → Bool) (hl : l.length < 1000000)
    (hf : ∀ x ∈ l, Con Try.prog g (D.int x :: caps) H fun r H' => r = D.bool (p x) ∧ H' = H) : Con Try.prog 69 [.f (fI l), .fn g caps] H fun r H' => r = D.bool (l.any p) ∧ H' = H := by
  refine Con.walk good fn_int_ContainsFunc (by simp) ?_
  unfold s_int_ContainsFunc
  simp only [argsE, List.length_cons, List.length_nil, Nat.reduceAdd]
  repeat' (first | (with_reducible first | refine r1 ?_ | refine rK fun K hK => ?_ | refine wpS_app fun K hK => ?_ | (refine hK _ ?_; clear hK K) | refine rL fun K hK => ?_) | ((with_reducible refine And.intro (Chk.mk' ?_) ?_); kernel_rfl) | ((with_reducible refine HS.cond1 ?_ ?_); rfl) | ((with_reducible refine HS.cond0 ?_ ?_); rfl) | ((with_reducible apply HS.condB) <;> first | rfl | (with_reducible intro h)) | (with_reducible first | refine r2 ?_ | refine r3 ?_ | refine r4 ?_ | refine r5 ?_ | refine r6 ?_ | refine r7 ?_ | refine r8 ?_ | refine r9 ?_ | refine rA ?_ | refine rB ?_ | refine rC ?_ | refine rD ?_) | ((with_reducible refine blockQ_miss ?_ ?_); rfl) | (with_reducible refine Two.mk' (fun h => ?_) (fun h => ?_) <;> try (exfalso; omega)) | ((with_reducible refine Bsel.mk' (fun h => ?_) (fun h => ?_)) <;> (try simp only [h])) | ((fail_if_success (with_reducible first | refine s1 ?_ | refine s2 ?_ | refine s3 ?_ | refine s4 ?_ | refine s5 ?_ | refine s6 ?_ | refine s7 ?_ | refine s8 ?_ | refine s9 ?_)); simp (disch := omega) only [↓LD, LU, LS, LT, loadA_rf, ↓reduceIte, reduceCtorEq, Nat.reduceAdd, Nat.reduceMul, Nat.reduceSub, Nat.reduceLeDiff, Nat.reduceLT, Nat.reduceEqDiff, Int.reduceNeg, Int.reduceLT, Int.reduceLE, Int.reduceEq, Int.reduceToNat, fI]) | ((with_reducible refine And.intro ?_ ?_); omega) | ((fail_if_success (with_reducible first | refine s1 ?_ | refine s2 ?_ | refine s3 ?_ | refine s4 ?_ | refine s5 ?_ | refine s6 ?_ | refine s7 ?_ | refine s8 ?_ | refine s9 ?_)); simp only [D.int, D.bool]))
  refine callW_self (c_int_IndexFunc l g caps H p hl hf) ?_
  rintro _ H' ⟨rfl, hH⟩
  rw [hH]; clear hH H'
  repeat' (first | (with_reducible first | refine r1 ?_ | refine rK fun K hK => ?_ | refine wpS_app fun K hK => ?_ | (refine hK _ ?_; clear hK K) | refine rL fun K hK => ?_) | ((with_reducible refine And.intro (Chk.mk' ?_) ?_); kernel_rfl) | ((with_reducible refine HS.cond1 ?_ ?_); rfl) | ((with_reducible refine HS.cond0 ?_ ?_); rfl) | ((with_reducible apply HS.condB) <;> first | rfl | (with_reducible intro h)) | (with_reducible first | refine r2 ?_ | refine r3 ?_ | refine r4 ?_ | refine r5 ?_ | refine r6 ?_ | refine r7 ?_ | refine r8 ?_ | refine r9 ?_ | refine rA ?_ | refine rB ?_ | refine rC ?_ | refine rD ?_) | ((with_reducible refine blockQ_miss ?_ ?_); rfl) | (with_reducible refine Two.mk' (fun h => ?_) (fun h => ?_) <;> try (exfalso; omega)) | ((with_reducible refine Bsel.mk' (fun h => ?_) (fun h => ?_)) <;> (try simp only [h])) | ((fail_if_success (with_reducible first | refine s1 ?_ | refine s2 ?_ | refine s3 ?_ | refine s4 ?_ | refine s5 ?_ | refine s6 ?_ | refine s7 ?_ | refine s8 ?_ | refine s9 ?_)); simp (disch := omega) only [↓LD, LU, LS, LT, loadA_rf, ↓reduceIte, reduceCtorEq, Nat.reduceAdd, Nat.reduceMul, Nat.reduceSub, Nat.reduceLeDiff, Nat.reduceLT, Nat.reduceEqDiff, Int.reduceNeg, Int.reduceLT, Int.reduceLE, Int.reduceEq, Int.reduceToNat, D.int]) | ((with_reducible refine And.intro ?_ ?_); omega) | ((fail_if_success (with_reducible first | refine s1 ?_ | refine s2 ?_ | refine s3 ?_ | refine s4 ?_ | refine s5 ?_ | refine s6 ?_ | refine s7 ?_ | refine s8 ?_ | refine s9 ?_)); simp only [D.int, D.bool]))
  all_goals
    refine endA rfl rfl ⟨congrArg D.bool ?_, rfl⟩
    rw [← idxF_any p 0 l]; simp; omega

theorem c_dag_met (ns : List Int) (done : List Bool) (h0 : ∀ x ∈ ns, 0 ≤ x) (hl : ns.length < 1000000) (hd : done.length < 140737488355328) : Con Try.prog 61 [.f (fI ns), .f (fB done)] [] fun r H' => r = D.bool (metB done ns) ∧ H' = [] := by
  refine Con.walk good fn_dag_met (by simp) ?_
  unfold s_dag_met
  simp only [argsE, List.length_cons, List.length_nil, Nat.reduceAdd]
  repeat' (first | (with_reducible first | refine r1 ?_ | refine rK fun K hK => ?_ | refine wpS_app fun K hK => ?_ | (refine hK _ ?_; clear hK K) | refine rL fun K hK => ?_) | ((with_reducible refine And.intro (Chk.mk' ?_) ?_); kernel_rfl) | ((with_reducible refine HS.cond1 ?_ ?_); rfl) | ((with_reducible refine HS.cond0 ?_ ?_); rfl) | ((with_reducible apply HS.condB) <;> first | rfl | (with_reducible intro h)) | (with_reducible first | refine r2 ?_ | refine r3 ?_ | refine r4 ?_ | refine r5 ?_ | refine r6 ?_ | refine r7 ?_ | refine r8 ?_ | refine r9 ?_ | refine rA ?_ | refine rB ?_ | refine rC ?_ | refine rD ?_) | ((with_reducible refine blockQ_miss ?_ ?_); rfl) | (with_reducible refine Two.mk' (fun h => ?_) (fun h => ?_) <;> try (exfalso; omega)) | ((with_reducible refine Bsel.mk' (fun h => ?_) (fun h => ?_)) <;> (try simp only [h])) | ((fail_if_success (with_reducible first | refine s1 ?_ | refine s2 ?_ | refine s3 ?_ | refine s4 ?_ | refine s5 ?_ | refine s6 ?_ | refine s7 ?_ | refine s8 ?_ | refine s9 ?_)); simp (disch := omega) only [↓LD, LU, LS, LT, loadA_rf, ↓reduceIte, reduceCtorEq, Nat.reduceAdd, Nat.reduceMul, Nat.reduceSub, Nat.reduceLeDiff, Nat.reduceLT, Nat.reduceEqDiff, Int.reduceNeg, Int.reduceLT, Int.reduceLE, Int.reduceEq, Int.reduceToNat]) | ((with_reducible refine And.intro ?_ ?_); omega) | ((fail_if_success (with_reducible first | refine s1 ?_ | refine s2 ?_ | refine s3 ?_ | refine s4 ?_ | refine s5 ?_ | refine s6 ?_ | refine s7 ?_ | refine s8 ?_ | refine s9 ?_)); simp only [D.int, D.bool]))
  refine callW_self (c_int_ContainsFunc ns _ _ _ (fun x => !inB done x) hl ?_) ?_
  · intro x hx
    exact c_dag_met1 done x (h0 x hx) hd
  rintro _ H' ⟨rfl, rfl⟩
  repeat' (first | (with_reducible first | refine r1 ?_ | refine rK fun K hK => ?_ | refine wpS_app fun K hK => ?_ | (refine hK _ ?_; clear hK K) | refine rL fun K hK => ?_) | ((with_reducible refine And.intro (Chk.mk' ?_) ?_); kernel_rfl) | ((with_reducible refine HS.cond1 ?_ ?_); rfl) | ((with_reducible refine HS.cond0 ?_ ?_); rfl) | ((with_reducible apply HS.condB) <;> first | rfl | (with_reducible intro h)) | (with_reducible first | refine r2 ?_ | refine r3 ?_ | refine r4 ?_ | refine r5 ?_ | refine r6 ?_ | refine r7 ?_ | refine r8 ?_ | refine r9 ?_ | refine rA ?_ | refine rB ?_ | refine rC ?_ | refine rD ?_) | ((with_reducible refine blockQ_miss ?_ ?_); rfl) | (with_reducible refine Two.mk' (fun h => ?_) (fun h => ?_) <;> try (exfalso; omega)) | ((with_reducible refine Bsel.mk' (fun h => ?_) (fun h => ?_)) <;> (try simp only [h])) | ((fail_if_success (with_reducible first | refine s1 ?_ | refine s2 ?_ | refine s3 ?_ | refine s4 ?_ | refine s5 ?_ | refine s6 ?_ | refine s7 ?_ | refine s8 ?_ | refine s9 ?_)); simp (disch := omega) only [↓LD, LU, LS, LT, loadA_rf, ↓reduceIte, reduceCtorEq, Nat.reduceAdd, Nat.reduceMul, Nat.reduceSub, Nat.reduceLeDiff, Nat.reduceLT, Nat.reduceEqDiff, Int.reduceNeg, Int.reduceLT, Int.reduceLE, Int.reduceEq, Int.reduceToNat]) | ((with_reducible refine And.intro ?_ ?_); omega) | ((fail_if_success (with_reducible first | refine s1 ?_ | refine s2 ?_ | refine s3 ?_ | refine s4 ?_ | refine s5 ?_ | refine s6 ?_ | refine s7 ?_ | refine s8 ?_ | refine s9 ?_)); simp only [D.int, D.bool]))
  refine end1 rfl rfl (by kernel_rfl) .f ⟨congrArg D.bool ?_, rfl⟩
  rw [metB, List.all_eq_not_any_not]
end Go.Proofs.Ytjbkckhpoicaeaa.Mir

/- The program's graphs: their contracts over plain lists: order. -/
namespace Go.Proofs.Ytjbkckhpoicaeaa.Mir
open Go Go.RowKit
set_option linter.unusedVariables false
set_option linter.unusedSimpArgs false
set_option maxHeartbeats 2000000

/-- The next node that may be done; -1. -/
def nxt (done : List Bool) : Nat → List Nd → Int
  | _, [] => -1
  | k, d :: ds => if !gt done k && metB done d.ns then k else nxt done (k + 1) ds
def ordF (ds : List Nd) : Nat → List Bool → List Int → List Int
  | 0, _, out => out
  | n + 1, done, out => if nxt done 0 ds < 0 then out else ordF ds n (done.set (nxt done 0 ds).toNat true) (out ++ [nxt done 0 ds])
def orderL (ds : List Nd) : List Int := ordF ds ds.length (List.replicate ds.length false) []
/-- Graphs small enough to walk. -/
def Fit (ds : List Nd) : Prop := ds.length < 1000 ∧ ∀ d ∈ ds, d.ns.length < 1000000
def Pos (ds : List Nd) : Prop := ∀ d ∈ ds, ∀ x ∈ d.ns, 0 ≤ x
/-- A list that grows from nil, beside a list of bools: the list, the bools' row, the rows (in the order of a sweep). -/
def outS (done : List Bool) (n : Nat) : List Int → D × Nat × List Row
  | [] => (.f (.v (.slice none 0 0)), 0, [.data 4 (done.map bF)])
  | x :: l => (.sl 0 0 n, 1, [.data 3 ((x :: l).map iF), .data 4 (done.map bF)])
theorem ordF_step {ds : List Nd} {i : Nat} {done : List Bool} {out : List Int} (h : i < ds.length) : ordF ds (ds.length - i) done out = if nxt done 0 ds < 0 then out else ordF ds (ds.length - (i + 1)) (done.set (nxt done 0 ds).toNat true) (out ++ [nxt done 0 ds]) := by
  rw [show ds.length - i = ds.length - (i + 1) + 1 by omega, ordF]
theorem mk_bools (n : Nat) : (List.range n).map (fun j => [F.v (.bool false)].getD (j % 1) (.v Go.undef)) = (List.replicate n false).map bF := by
  apply List.ext_getElem
  · simp
  · intro i h1 h2; simp [Nat.mod_one]
theorem c_dag_order (ds : List Nd) (hl : Fit ds) (hp : Pos ds) : Con Try.prog 43 [.f (fG ds)] [] fun r H' => r = .f (fI (orderL ds)) ∧ H' = [] := by
  obtain ⟨hl, hn⟩ := hl
  refine Con.walk good fn_dag_order (by simp) ?_
  unfold s_dag_order
  simp only [argsE, List.length_cons, List.length_nil, Nat.reduceAdd]
  repeat' (first | (with_reducible first | refine r1 ?_ | refine rK fun K hK => ?_ | refine wpS_app fun K hK => ?_ | (refine hK _ ?_; clear hK K) | refine rL fun K hK => ?_) | ((with_reducible refine And.intro (Chk.mk' ?_) ?_); kernel_rfl) | ((with_reducible refine HS.cond1 ?_ ?_); rfl) | ((with_reducible refine HS.cond0 ?_ ?_); rfl) | ((with_reducible apply HS.condB) <;> first | rfl | (with_reducible intro h)) | (with_reducible first | refine r2 ?_ | refine r3 ?_ | refine r4 ?_ | refine r5 ?_ | refine r6 ?_ | refine r7 ?_ | refine r8 ?_ | refine r9 ?_ | refine rA ?_ | refine rB ?_ | refine rC ?_ | refine rD ?_) | ((with_reducible refine blockQ_miss ?_ ?_); rfl) | (with_reducible refine Two.mk' (fun h => ?_) (fun h => ?_) <;> try (exfalso; omega)) | ((with_reducible refine Bsel.mk' (fun h => ?_) (fun h => ?_)) <;> (try simp only [h])) | ((fail_if_success (with_reducible first | refine s1 ?_ | refine s2 ?_ | refine s3 ?_ | refine s4 ?_ | refine s5 ?_ | refine s6 ?_ | refine s7 ?_ | refine s8 ?_ | refine s9 ?_)); simp (disch := omega) only [↓LD, LU, LS, LT, loadA_rf, ↓reduceIte, reduceCtorEq, Nat.reduceAdd, Nat.reduceMul, Nat.reduceSub, Nat.reduceLeDiff, Nat.reduceLT, Nat.reduceEqDiff, Int.reduceNeg, Int.reduceLT, Int.reduceLE, Int.reduceEq, Int.reduceToNat, fG]) | ((with_reducible refine And.intro ?_ ?_); omega) | ((fail_if_success (with_reducible first | refine s1 ?_ | refine s2 ?_ | refine s3 ?_ | refine s4 ?_ | refine s5 ?_ | refine s6 ?_ | refine s7 ?_ | refine s8 ?_ | refine s9 ?_)); simp only [D.int, D.bool]))
  rw [mk_bools]
  refine HS.loopG [0, 3, 4, 12, 13] (fun x : Nat × List Bool × List Int => ⟨frm 50 [(0, .f (fG ds)), (3, (outS x.2.1 x.1 x.2.2).1), (4, .sl (outS x.2.1 x.1 x.2.2).2.1 0 ds.length), (12, D.int ds.length), (13, D.int x.1)], (outS x.2.1 x.1 x.2.2).2.2, []⟩)
    (fun x => x.1 ≤ ds.length ∧ x.2.1.length = ds.length ∧ x.2.2.length = x.1 ∧ orderL ds = ordF ds (ds.length - x.1) x.2.1 x.2.2) (fun x => ds.length - x.1) (0, List.replicate ds.length false, []) (by kernel_rfl) ⟨Nat.zero_le _, List.length_replicate, rfl, rfl⟩ ?_
  rintro ⟨i, done, out⟩ ⟨hi, hd, ho, hr⟩
  dsimp only at hi hd ho hr
  rcases out with _ | ⟨a, l⟩
  · repeat' (first | (with_reducible first | refine r1 ?_ | refine rK fun K hK => ?_ | refine wpS_app fun K hK => ?_ | (refine hK _ ?_; clear hK K) | refine rL fun K hK => ?_) | ((with_reducible refine And.intro (Chk.mk' ?_) ?_); kernel_rfl) | ((with_reducible refine HS.cond1 ?_ ?_); rfl) | ((with_reducible refine HS.cond0 ?_ ?_); rfl) | ((with_reducible apply HS.condB) <;> first | rfl | (with_reducible intro h)) | (with_reducible first | refine r2 ?_ | refine r3 ?_ | refine r4 ?_ | refine r5 ?_ | refine r6 ?_ | refine r7 ?_ | refine r8 ?_ | refine r9 ?_ | refine rA ?_ | refine rB ?_ | refine rC ?_ | refine rD ?_) | ((with_reducible refine blockQ_miss ?_ ?_); rfl) | (with_reducible refine Two.mk' (fun h => ?_) (fun h => ?_) <;> try (exfalso; omega)) | ((with_reducible refine Bsel.mk' (fun h => ?_) (fun h => ?_)) <;> (try simp only [h])) | ((fail_if_success (with_reducible first | refine s1 ?_ | refine s2 ?_ | refine s3 ?_ | refine s4 ?_ | refine s5 ?_ | refine s6 ?_ | refine s7 ?_ | refine s8 ?_ | refine s9 ?_)); simp (disch := omega) only [↓LD, LU, LS, LT, loadA_rf, ↓reduceIte, reduceCtorEq, Nat.reduceAdd, Nat.reduceMul, Nat.reduceSub, Nat.reduceLeDiff, Nat.reduceLT, Nat.reduceEqDiff, Int.reduceNeg, Int.reduceLT, Int.reduceLE, Int.reduceEq, Int.reduceToNat, fG, outS, nd_load, nd_cs, nd_at0, nd_at1, nd_at2, -loadA_rf]) | ((with_reducible refine And.intro ?_ ?_); omega) | ((fail_if_success (with_reducible first | refine s1 ?_ | refine s2 ?_ | refine s3 ?_ | refine s4 ?_ | refine s5 ?_ | refine s6 ?_ | refine s7 ?_ | refine s8 ?_ | refine s9 ?_)); simp only [D.int, D.bool]))
    refine HS.loopG [0, 3, 4, 5, 12, 13, 15, 16, 17] (fun x : Nat × Int => ⟨frm 50 [(0, .f (fG ds)), (3, (outS done i []).1), (4, .sl (outS done i []).2.1 0 ds.length), (5, D.int x.2), (12, D.int ds.length), (13, D.int i), (15, .f (fG ds)), (16, D.int ds.length), (17, D.int x.1)], (outS done i []).2.2, []⟩)
      (fun x => x.1 ≤ ds.length ∧ (0 ≤ x.2 → nxt done 0 ds = x.2) ∧ (x.2 < 0 → x.2 = -1 ∧ nxt done 0 ds = nxt done x.1 (ds.drop x.1)) ∧ x.2 < ds.length) (fun x => ds.length - x.1) (0, -1) (by kernel_rfl) ⟨Nat.zero_le _, by simp, by simp, by simp; omega⟩ ?_
    rintro ⟨k, z⟩ ⟨hk, hz, hz', hzl⟩
    dsimp only at hk hz hz' hzl
    repeat' (first | (with_reducible first | refine r1 ?_ | refine rK fun K hK => ?_ | refine wpS_app fun K hK => ?_ | (refine hK _ ?_; clear hK K) | refine rL fun K hK => ?_) | ((with_reducible refine And.intro (Chk.mk' ?_) ?_); kernel_rfl) | ((with_reducible refine HS.cond1 ?_ ?_); rfl) | ((with_reducible refine HS.cond0 ?_ ?_); rfl) | ((with_reducible apply HS.condB) <;> first | rfl | (with_reducible intro h)) | (with_reducible first | refine r2 ?_ | refine r3 ?_ | refine r4 ?_ | refine r5 ?_ | refine r6 ?_ | refine r7 ?_ | refine r8 ?_ | refine r9 ?_ | refine rA ?_ | refine rB ?_ | refine rC ?_ | refine rD ?_) | ((with_reducible refine blockQ_miss ?_ ?_); rfl) | (with_reducible refine Two.mk' (fun h => ?_) (fun h => ?_) <;> try (exfalso; omega)) | ((with_reducible refine Bsel.mk' (fun h => ?_) (fun h => ?_)) <;> (try simp only [h])) | ((fail_if_success (with_reducible first | refine s1 ?_ | refine s2 ?_ | refine s3 ?_ | refine s4 ?_ | refine s5 ?_ | refine s6 ?_ | refine s7 ?_ | refine s8 ?_ | refine s9 ?_)); simp (disch := omega) only [↓LD, LU, LS, LT, loadA_rf, ↓reduceIte, reduceCtorEq, Nat.reduceAdd, Nat.reduceMul, Nat.reduceSub, Nat.reduceLeDiff, Nat.reduceLT, Nat.reduceEqDiff, Int.reduceNeg, Int.reduceLT, Int.reduceLE, Int.reduceEq, Int.reduceToNat, fG, outS, nd_load, nd_cs, nd_at0, nd_at1, nd_at2, -loadA_rf]) | ((with_reducible refine And.intro ?_ ?_); omega) | ((fail_if_success (with_reducible first | refine s1 ?_ | refine s2 ?_ | refine s3 ?_ | refine s4 ?_ | refine s5 ?_ | refine s6 ?_ | refine s7 ?_ | refine s8 ?_ | refine s9 ?_)); simp only [D.int, D.bool]))
    · refine callW_peek (c_dag_met (gt ds k).ns done (hp _ (gt_mem (by omega))) (hn _ (gt_mem (by omega))) (by omega)) (.cons .f (.cons (hd ▸ .sl rfl (fun e => by simp; omega)) .nil)) ?_ ?_
      · rintro _ _ ⟨rfl, rfl⟩
        exact ⟨.f .v, by simp⟩
      rintro _ _ ⟨rfl, rfl⟩
      repeat' (first | (with_reducible first | refine r1 ?_ | refine rK fun K hK => ?_ | refine wpS_app fun K hK => ?_ | (refine hK _ ?_; clear hK K) | refine rL fun K hK => ?_) | ((with_reducible refine And.intro (Chk.mk' ?_) ?_); kernel_rfl) | ((with_reducible refine HS.cond1 ?_ ?_); rfl) | ((with_reducible refine HS.cond0 ?_ ?_); rfl) | ((with_reducible apply HS.condB) <;> first | rfl | (with_reducible intro h)) | (with_reducible first | refine r2 ?_ | refine r3 ?_ | refine r4 ?_ | refine r5 ?_ | refine r6 ?_ | refine r7 ?_ | refine r8 ?_ | refine r9 ?_ | refine rA ?_ | refine rB ?_ | refine rC ?_ | refine rD ?_) | ((with_reducible refine blockQ_miss ?_ ?_); rfl) | (with_reducible refine Two.mk' (fun h => ?_) (fun h => ?_) <;> try (exfalso; omega)) | ((with_reducible refine Bsel.mk' (fun h => ?_) (fun h => ?_)) <;> (try simp only [h])) | ((fail_if_success (with_reducible first | refine s1 ?_ | refine s2 ?_ | refine s3 ?_ | refine s4 ?_ | refine s5 ?_ | refine s6 ?_ | refine s7 ?_ | refine s8 ?_ | refine s9 ?_)); simp (disch := omega) only [↓LD, LU, LS, LT, loadA_rf, ↓reduceIte, reduceCtorEq, Nat.reduceAdd, Nat.reduceMul, Nat.reduceSub, Nat.reduceLeDiff, Nat.reduceLT, Nat.reduceEqDiff, Int.reduceNeg, Int.reduceLT, Int.reduceLE, Int.reduceEq, Int.reduceToNat, fG, outS, nd_load, nd_cs, nd_at0, nd_at1, nd_at2, -loadA_rf, List.append_nil]) | ((with_reducible refine And.intro ?_ ?_); omega) | ((fail_if_success (with_reducible first | refine s1 ?_ | refine s2 ?_ | refine s3 ?_ | refine s4 ?_ | refine s5 ?_ | refine s6 ?_ | refine s7 ?_ | refine s8 ?_ | refine s9 ?_)); simp only [D.int, D.bool]))
      · refine Next.mk (k + 1, (k : Int)) (by kernel_rfl) ⟨by omega, fun _ => ?_, fun h => by omega, by omega⟩ (by omega)
        rw [(hz' (by assumption)).2, drop_gt (by omega), nxt, if_pos (by simp_all)]
      · refine Next.mk (k + 1, z) (by kernel_rfl) ⟨by omega, fun h => by omega, fun h => ⟨(hz' h).1, ?_⟩, hzl⟩ (by omega)
        rw [(hz' (by assumption)).2, drop_gt (by omega), nxt, if_neg (by simp_all)]
    · refine Next.mk (k + 1, z) (by kernel_rfl) ⟨by omega, fun h => by omega, fun h => ⟨(hz' h).1, ?_⟩, hzl⟩ (by omega)
      rw [(hz' (by assumption)).2, drop_gt (by omega), nxt, if_neg (by simp_all)]
    · refine Next.mk (k + 1, z) (by kernel_rfl) ⟨by omega, hz, fun h => by omega, hzl⟩ (by omega)
    · have hn0 : nxt done 0 ds = -1 := by rw [(hz' (by assumption)).2, List.drop_of_length_le (by omega), nxt]
      refine end1 rfl rfl (by kernel_rfl) (.nil) ⟨congrArg D.f ?_, rfl⟩
      rw [hr, ordF_step (by omega), if_pos (by omega)]; first | rfl | (unfold fI; rw [ho]; rfl)
    · have hn0 : nxt done 0 ds = z := hz (by omega)
      subst ho
      refine Next.mk (0 + 1, done.set z.toNat true, [] ++ [z]) (by kernel_rfl) ⟨by simp at *; omega, by simp [hd], by simp, ?_⟩ (by simp at *; omega)
      rw [hr, ordF_step (by omega), if_neg (by omega), hn0]; rfl
    all_goals
      refine end1 rfl rfl (by kernel_rfl) (.nil) ⟨congrArg D.f ?_, rfl⟩
      rw [hr, show ds.length - i = 0 by omega]; first | rfl | (unfold fI ordF; rw [ho]; rfl)
  · repeat' (first | (with_reducible first | refine r1 ?_ | refine rK fun K hK => ?_ | refine wpS_app fun K hK => ?_ | (refine hK _ ?_; clear hK K) | refine rL fun K hK => ?_) | ((with_reducible refine And.intro (Chk.mk' ?_) ?_); kernel_rfl) | ((with_reducible refine HS.cond1 ?_ ?_); rfl) | ((with_reducible refine HS.cond0 ?_ ?_); rfl) | ((with_reducible apply HS.condB) <;> first | rfl | (with_reducible intro h)) | (with_reducible first | refine r2 ?_ | refine r3 ?_ | refine r4 ?_ | refine r5 ?_ | refine r6 ?_ | refine r7 ?_ | refine r8 ?_ | refine r9 ?_ | refine rA ?_ | refine rB ?_ | refine rC ?_ | refine rD ?_) | ((with_reducible refine blockQ_miss ?_ ?_); rfl) | (with_reducible refine Two.mk' (fun h => ?_) (fun h => ?_) <;> try (exfalso; omega)) | ((with_reducible refine Bsel.mk' (fun h => ?_) (fun h => ?_)) <;> (try simp only [h])) | ((fail_if_success (with_reducible first | refine s1 ?_ | refine s2 ?_ | refine s3 ?_ | refine s4 ?_ | refine s5 ?_ | refine s6 ?_ | refine s7 ?_ | refine s8 ?_ | refine s9 ?_)); simp (disch := omega) only [↓LD, LU, LS, LT, loadA_rf, ↓reduceIte, reduceCtorEq, Nat.reduceAdd, Nat.reduceMul, Nat.reduceSub, Nat.reduceLeDiff, Nat.reduceLT, Nat.reduceEqDiff, Int.reduceNeg, Int.reduceLT, Int.reduceLE, Int.reduceEq, Int.reduceToNat, fG, outS, nd_load, nd_cs, nd_at0, nd_at1, nd_at2, -loadA_rf]) | ((with_reducible refine And.intro ?_ ?_); omega) | ((fail_if_success (with_reducible first | refine s1 ?_ | refine s2 ?_ | refine s3 ?_ | refine s4 ?_ | refine s5 ?_ | refine s6 ?_ | refine s7 ?_ | refine s8 ?_ | refine s9 ?_)); simp only [D.int, D.bool]))
    refine HS.loopG [0, 3, 4, 5, 12, 13, 15, 16, 17] (fun x : Nat × Int => ⟨frm 50 [(0, .f (fG ds)), (3, (outS done i (a :: l)).1), (4, .sl (outS done i (a :: l)).2.1 0 ds.length), (5, D.int x.2), (12, D.int ds.length), (13, D.int i), (15, .f (fG ds)), (16, D.int ds.length), (17, D.int x.1)], (outS done i (a :: l)).2.2, []⟩)
      (fun x => x.1 ≤ ds.length ∧ (0 ≤ x.2 → nxt done 0 ds = x.2) ∧ (x.2 < 0 → x.2 = -1 ∧ nxt done 0 ds = nxt done x.1 (ds.drop x.1)) ∧ x.2 < ds.length) (fun x => ds.length - x.1) (0, -1) (by kernel_rfl) ⟨Nat.zero_le _, by simp, by simp, by simp; omega⟩ ?_
    rintro ⟨k, z⟩ ⟨hk, hz, hz', hzl⟩
    dsimp only at hk hz hz' hzl
    repeat' (first | (with_reducible first | refine r1 ?_ | refine rK fun K hK => ?_ | refine wpS_app fun K hK => ?_ | (refine hK _ ?_; clear hK K) | refine rL fun K hK => ?_) | ((with_reducible refine And.intro (Chk.mk' ?_) ?_); kernel_rfl) | ((with_reducible refine HS.cond1 ?_ ?_); rfl) | ((with_reducible refine HS.cond0 ?_ ?_); rfl) | ((with_reducible apply HS.condB) <;> first | rfl | (with_reducible intro h)) | (with_reducible first | refine r2 ?_ | refine r3 ?_ | refine r4 ?_ | refine r5 ?_ | refine r6 ?_ | refine r7 ?_ | refine r8 ?_ | refine r9 ?_ | refine rA ?_ | refine rB ?_ | refine rC ?_ | refine rD ?_) | ((with_reducible refine blockQ_miss ?_ ?_); rfl) | (with_reducible refine Two.mk' (fun h => ?_) (fun h => ?_) <;> try (exfalso; omega)) | ((with_reducible refine Bsel.mk' (fun h => ?_) (fun h => ?_)) <;> (try simp only [h])) | ((fail_if_success (with_reducible first | refine s1 ?_ | refine s2 ?_ | refine s3 ?_ | refine s4 ?_ | refine s5 ?_ | refine s6 ?_ | refine s7 ?_ | refine s8 ?_ | refine s9 ?_)); simp (disch := omega) only [↓LD, LU, LS, LT, loadA_rf, ↓reduceIte, reduceCtorEq, Nat.reduceAdd, Nat.reduceMul, Nat.reduceSub, Nat.reduceLeDiff, Nat.reduceLT, Nat.reduceEqDiff, Int.reduceNeg, Int.reduceLT, Int.reduceLE, Int.reduceEq, Int.reduceToNat, fG, outS, nd_load, nd_cs, nd_at0, nd_at1, nd_at2, -loadA_rf]) | ((with_reducible refine And.intro ?_ ?_); omega) | ((fail_if_success (with_reducible first | refine s1 ?_ | refine s2 ?_ | refine s3 ?_ | refine s4 ?_ | refine s5 ?_ | refine s6 ?_ | refine s7 ?_ | refine s8 ?_ | refine s9 ?_)); simp only [D.int, D.bool]))
    · refine callW_peek (c_dag_met (gt ds k).ns done (hp _ (gt_mem (by omega))) (hn _ (gt_mem (by omega))) (by omega)) (.cons .f (.cons (hd ▸ .sl rfl (fun e => by simp; omega)) .nil)) ?_ ?_
      · rintro _ _ ⟨rfl, rfl⟩
        exact ⟨.f .v, by simp⟩
      rintro _ _ ⟨rfl, rfl⟩
      repeat' (first | (with_reducible first | refine r1 ?_ | refine rK fun K hK => ?_ | refine wpS_app fun K hK => ?_ | (refine hK _ ?_; clear hK K) | refine rL fun K hK => ?_) | ((with_reducible refine And.intro (Chk.mk' ?_) ?_); kernel_rfl) | ((with_reducible refine HS.cond1 ?_ ?_); rfl) | ((with_reducible refine HS.cond0 ?_ ?_); rfl) | ((with_reducible apply HS.condB) <;> first | rfl | (with_reducible intro h)) | (with_reducible first | refine r2 ?_ | refine r3 ?_ | refine r4 ?_ | refine r5 ?_ | refine r6 ?_ | refine r7 ?_ | refine r8 ?_ | refine r9 ?_ | refine rA ?_ | refine rB ?_ | refine rC ?_ | refine rD ?_) | ((with_reducible refine blockQ_miss ?_ ?_); rfl) | (with_reducible refine Two.mk' (fun h => ?_) (fun h => ?_) <;> try (exfalso; omega)) | ((with_reducible refine Bsel.mk' (fun h => ?_) (fun h => ?_)) <;> (try simp only [h])) | ((fail_if_success (with_reducible first | refine s1 ?_ | refine s2 ?_ | refine s3 ?_ | refine s4 ?_ | refine s5 ?_ | refine s6 ?_ | refine s7 ?_ | refine s8 ?_ | refine s9 ?_)); simp (disch := omega) only [↓LD, LU, LS, LT, loadA_rf, ↓reduceIte, reduceCtorEq, Nat.reduceAdd, Nat.reduceMul, Nat.reduceSub, Nat.reduceLeDiff, Nat.reduceLT, Nat.reduceEqDiff, Int.reduceNeg, Int.reduceLT, Int.reduceLE, Int.reduceEq, Int.reduceToNat, fG, outS, nd_load, nd_cs, nd_at0, nd_at1, nd_at2, -loadA_rf, List.append_nil]) | ((with_reducible refine And.intro ?_ ?_); omega) | ((fail_if_success (with_reducible first | refine s1 ?_ | refine s2 ?_ | refine s3 ?_ | refine s4 ?_ | refine s5 ?_ | refine s6 ?_ | refine s7 ?_ | refine s8 ?_ | refine s9 ?_)); simp only [D.int, D.bool]))
      · refine Next.mk (k + 1, (k : Int)) (by kernel_rfl) ⟨by omega, fun _ => ?_, fun h => by omega, by omega⟩ (by omega)
        rw [(hz' (by assumption)).2, drop_gt (by omega), nxt, if_pos (by simp_all)]
      · refine Next.mk (k + 1, z) (by kernel_rfl) ⟨by omega, fun h => by omega, fun h => ⟨(hz' h).1, ?_⟩, hzl⟩ (by omega)
        rw [(hz' (by assumption)).2, drop_gt (by omega), nxt, if_neg (by simp_all)]
    · refine Next.mk (k + 1, z) (by kernel_rfl) ⟨by omega, fun h => by omega, fun h => ⟨(hz' h).1, ?_⟩, hzl⟩ (by omega)
      rw [(hz' (by assumption)).2, drop_gt (by omega), nxt, if_neg (by simp_all)]
    · refine Next.mk (k + 1, z) (by kernel_rfl) ⟨by omega, hz, fun h => by omega, hzl⟩ (by omega)
    · have hn0 : nxt done 0 ds = -1 := by rw [(hz' (by assumption)).2, List.drop_of_length_le (by omega), nxt]
      refine end1 rfl rfl (by kernel_rfl) (.sl rfl (fun e => by simp at ho; omega)) ⟨congrArg D.f ?_, rfl⟩
      rw [hr, ordF_step (by omega), if_pos (by omega)]; first | rfl | (unfold fI; rw [ho]; rfl)
    · have hn0 : nxt done 0 ds = z := hz (by omega)
      subst ho
      refine Next.mk ((l.length + 1) + 1, done.set z.toNat true, (a :: l) ++ [z]) (by kernel_rfl) ⟨by simp at *; omega, by simp [hd], by simp, ?_⟩ (by simp at *; omega)
      rw [hr, ordF_step (by omega), if_neg (by omega), hn0]; rfl
    all_goals
      refine end1 rfl rfl (by kernel_rfl) (.sl rfl (fun e => by simp at ho; omega)) ⟨congrArg D.f ?_, rfl⟩
      rw [hr, show ds.length - i = 0 by omega]; first | rfl | (unfold fI ordF; rw [ho]; rfl)
end Go.Proofs.Ytjbkckhpoicaeaa.Mir

/- The program's graphs: their contracts over plain lists: Check, Order, Ready. -/
namespace Go.Proofs.Ytjbkckhpoicaeaa.Mir
open Go Go.RowKit
set_option linter.unusedVariables false
set_option linter.unusedSimpArgs false
set_option maxHeartbeats 2000000

theorem rise_pos {n : Int} : ∀ {l : List Int} {a : Int}, rise n a l = true → ∀ x ∈ l, a < x
  | [], _, _, x, hx => by simp at hx
  | y :: l, a, h, x, hx => by
    simp only [rise, Bool.and_eq_true, decide_eq_true_eq] at h
    rcases List.mem_cons.1 hx with rfl | hx
    · exact h.1.1
    · have := rise_pos h.2 x hx; omega
theorem pos_of {ds : List Nd} {n : Int} (h : ds.all (fun d => rightB d n) = true) : Pos ds := fun d hd x hx => by
  have := List.all_eq_true.1 h d hd
  simp only [rightB, Bool.and_eq_true] at this
  have := rise_pos this.1 x hx
  omega
def checkL (ds : List Nd) : Int :=
  if ds.length < 1 ∨ 8 < ds.length then 1 else if ds.all (fun d => rightB d ds.length) = false then 1 else if (orderL ds).length < ds.length then 9 else 0
theorem c_dag_Check (ds : List Nd) (hf : Fit ds) : Con Try.prog 9 [.f (fG ds)] [] fun r H' => r = D.int (checkL ds) ∧ H' = [] := by
  obtain ⟨hl, hn⟩ := hf
  refine Con.walk good fn_dag_Check (by simp) ?_
  unfold s_dag_Check
  simp only [argsE, List.length_cons, List.length_nil, Nat.reduceAdd]
  repeat' (first | (with_reducible first | refine r1 ?_ | refine rK fun K hK => ?_ | refine wpS_app fun K hK => ?_ | (refine hK _ ?_; clear hK K) | refine rL fun K hK => ?_) | ((with_reducible refine And.intro (Chk.mk' ?_) ?_); kernel_rfl) | ((with_reducible refine HS.cond1 ?_ ?_); rfl) | ((with_reducible refine HS.cond0 ?_ ?_); rfl) | ((with_reducible apply HS.condB) <;> first | rfl | (with_reducible intro h)) | (with_reducible first | refine r2 ?_ | refine r3 ?_ | refine r4 ?_ | refine r5 ?_ | refine r6 ?_ | refine r7 ?_ | refine r8 ?_ | refine r9 ?_ | refine rA ?_ | refine rB ?_ | refine rC ?_ | refine rD ?_) | ((with_reducible refine blockQ_miss ?_ ?_); rfl) | (with_reducible refine Two.mk' (fun h => ?_) (fun h => ?_) <;> try (exfalso; omega)) | ((with_reducible refine Bsel.mk' (fun h => ?_) (fun h => ?_)) <;> (try simp only [h])) | ((fail_if_success (with_reducible first | refine s1 ?_ | refine s2 ?_ | refine s3 ?_ | refine s4 ?_ | refine s5 ?_ | refine s6 ?_ | refine s7 ?_ | refine s8 ?_ | refine s9 ?_)); simp (disch := omega) only [↓LD, LU, LS, LT, loadA_rf, ↓reduceIte, reduceCtorEq, Nat.reduceAdd, Nat.reduceMul, Nat.reduceSub, Nat.reduceLeDiff, Nat.reduceLT, Nat.reduceEqDiff, Int.reduceNeg, Int.reduceLT, Int.reduceLE, Int.reduceEq, Int.reduceToNat, fG]) | ((with_reducible refine And.intro ?_ ?_); omega) | ((fail_if_success (with_reducible first | refine s1 ?_ | refine s2 ?_ | refine s3 ?_ | refine s4 ?_ | refine s5 ?_ | refine s6 ?_ | refine s7 ?_ | refine s8 ?_ | refine s9 ?_)); simp only [D.int, D.bool]))
  · refine end1 rfl rfl (by kernel_rfl) .f ⟨congrArg D.int ?_, rfl⟩
    unfold checkL; rw [if_pos (.inl (by omega))]
  · refine end1 rfl rfl (by kernel_rfl) .f ⟨congrArg D.int ?_, rfl⟩
    unfold checkL; rw [if_pos (.inr (by omega))]
  have hck : checkL ds = if ds.all (fun d => rightB d ds.length) = false then 1 else if (orderL ds).length < ds.length then 9 else 0 := by
    unfold checkL; rw [if_neg (by omega)]
  refine HS.loopG [0, 13, 14, 15] (fun k : Nat => ⟨frm 31 [(0, .f (fG ds)), (13, .f (fG ds)), (14, D.int ds.length), (15, D.int k)], [], []⟩)
    (fun k => k ≤ ds.length ∧ ds.all (fun d => rightB d ds.length) = (ds.drop k).all (fun d => rightB d ds.length)) (fun k => ds.length - k) 0 (by kernel_rfl) ⟨Nat.zero_le _, rfl⟩ ?_
  rintro k ⟨hk, hr⟩
  repeat' (first | (with_reducible first | refine r1 ?_ | refine rK fun K hK => ?_ | refine wpS_app fun K hK => ?_ | (refine hK _ ?_; clear hK K) | refine rL fun K hK => ?_) | ((with_reducible refine And.intro (Chk.mk' ?_) ?_); kernel_rfl) | ((with_reducible refine HS.cond1 ?_ ?_); rfl) | ((with_reducible refine HS.cond0 ?_ ?_); rfl) | ((with_reducible apply HS.condB) <;> first | rfl | (with_reducible intro h)) | (with_reducible first | refine r2 ?_ | refine r3 ?_ | refine r4 ?_ | refine r5 ?_ | refine r6 ?_ | refine r7 ?_ | refine r8 ?_ | refine r9 ?_ | refine rA ?_ | refine rB ?_ | refine rC ?_ | refine rD ?_) | ((with_reducible refine blockQ_miss ?_ ?_); rfl) | (with_reducible refine Two.mk' (fun h => ?_) (fun h => ?_) <;> try (exfalso; omega)) | ((with_reducible refine Bsel.mk' (fun h => ?_) (fun h => ?_)) <;> (try simp only [h])) | ((fail_if_success (with_reducible first | refine s1 ?_ | refine s2 ?_ | refine s3 ?_ | refine s4 ?_ | refine s5 ?_ | refine s6 ?_ | refine s7 ?_ | refine s8 ?_ | refine s9 ?_)); simp (disch := omega) only [↓LD, LU, LS, LT, loadA_rf, ↓reduceIte, reduceCtorEq, Nat.reduceAdd, Nat.reduceMul, Nat.reduceSub, Nat.reduceLeDiff, Nat.reduceLT, Nat.reduceEqDiff, Int.reduceNeg, Int.reduceLT, Int.reduceLE, Int.reduceEq, Int.reduceToNat, fG, nd_load, nd_cs, nd_at0, nd_at1, nd_at2, -loadA_rf]) | ((with_reducible refine And.intro ?_ ?_); omega) | ((fail_if_success (with_reducible first | refine s1 ?_ | refine s2 ?_ | refine s3 ?_ | refine s4 ?_ | refine s5 ?_ | refine s6 ?_ | refine s7 ?_ | refine s8 ?_ | refine s9 ?_)); simp only [D.int, D.bool]))
  · refine callW_peek (c_dag_right (gt ds k) ds.length (hn _ (gt_mem (by omega)))) (.cons (.ags (.cons .f (.cons .f (.cons .f .nil)))) (.cons .f .nil)) ?_ ?_
    · rintro _ _ ⟨rfl, rfl⟩
      exact ⟨.f .v, by simp⟩
    rintro _ _ ⟨rfl, rfl⟩
    repeat' (first | (with_reducible first | refine r1 ?_ | refine rK fun K hK => ?_ | refine wpS_app fun K hK => ?_ | (refine hK _ ?_; clear hK K) | refine rL fun K hK => ?_) | ((with_reducible refine And.intro (Chk.mk' ?_) ?_); kernel_rfl) | ((with_reducible refine HS.cond1 ?_ ?_); rfl) | ((with_reducible refine HS.cond0 ?_ ?_); rfl) | ((with_reducible apply HS.condB) <;> first | rfl | (with_reducible intro h)) | (with_reducible first | refine r2 ?_ | refine r3 ?_ | refine r4 ?_ | refine r5 ?_ | refine r6 ?_ | refine r7 ?_ | refine r8 ?_ | refine r9 ?_ | refine rA ?_ | refine rB ?_ | refine rC ?_ | refine rD ?_) | ((with_reducible refine blockQ_miss ?_ ?_); rfl) | (with_reducible refine Two.mk' (fun h => ?_) (fun h => ?_) <;> try (exfalso; omega)) | ((with_reducible refine Bsel.mk' (fun h => ?_) (fun h => ?_)) <;> (try simp only [h])) | ((fail_if_success (with_reducible first | refine s1 ?_ | refine s2 ?_ | refine s3 ?_ | refine s4 ?_ | refine s5 ?_ | refine s6 ?_ | refine s7 ?_ | refine s8 ?_ | refine s9 ?_)); simp (disch := omega) only [↓LD, LU, LS, LT, loadA_rf, ↓reduceIte, reduceCtorEq, Nat.reduceAdd, Nat.reduceMul, Nat.reduceSub, Nat.reduceLeDiff, Nat.reduceLT, Nat.reduceEqDiff, Int.reduceNeg, Int.reduceLT, Int.reduceLE, Int.reduceEq, Int.reduceToNat, fG, List.append_nil, Bool.not_eq_true']) | ((with_reducible refine And.intro ?_ ?_); omega) | ((fail_if_success (with_reducible first | refine s1 ?_ | refine s2 ?_ | refine s3 ?_ | refine s4 ?_ | refine s5 ?_ | refine s6 ?_ | refine s7 ?_ | refine s8 ?_ | refine s9 ?_)); simp only [D.int, D.bool]))
    · refine end1 rfl rfl (by kernel_rfl) .f ⟨congrArg D.int ?_, rfl⟩
      rw [hck, if_pos]
      rw [hr, drop_gt (by omega), List.all_cons]; simp_all
    · refine Next.mk (k + 1) (by kernel_rfl) ⟨by omega, ?_⟩ (by omega)
      rw [hr, drop_gt (by omega), List.all_cons]; simp_all
  have hall : ds.all (fun d => rightB d ds.length) = true := by rw [hr, List.drop_of_length_le (by omega)]; rfl
  repeat' (first | (with_reducible first | refine r1 ?_ | refine rK fun K hK => ?_ | refine wpS_app fun K hK => ?_ | (refine hK _ ?_; clear hK K) | refine rL fun K hK => ?_) | ((with_reducible refine And.intro (Chk.mk' ?_) ?_); kernel_rfl) | ((with_reducible refine HS.cond1 ?_ ?_); rfl) | ((with_reducible refine HS.cond0 ?_ ?_); rfl) | ((with_reducible apply HS.condB) <;> first | rfl | (with_reducible intro h)) | (with_reducible first | refine r2 ?_ | refine r3 ?_ | refine r4 ?_ | refine r5 ?_ | refine r6 ?_ | refine r7 ?_ | refine r8 ?_ | refine r9 ?_ | refine rA ?_ | refine rB ?_ | refine rC ?_ | refine rD ?_) | ((with_reducible refine blockQ_miss ?_ ?_); rfl) | (with_reducible refine Two.mk' (fun h => ?_) (fun h => ?_) <;> try (exfalso; omega)) | ((with_reducible refine Bsel.mk' (fun h => ?_) (fun h => ?_)) <;> (try simp only [h])) | ((fail_if_success (with_reducible first | refine s1 ?_ | refine s2 ?_ | refine s3 ?_ | refine s4 ?_ | refine s5 ?_ | refine s6 ?_ | refine s7 ?_ | refine s8 ?_ | refine s9 ?_)); simp (disch := omega) only [↓LD, LU, LS, LT, loadA_rf, ↓reduceIte, reduceCtorEq, Nat.reduceAdd, Nat.reduceMul, Nat.reduceSub, Nat.reduceLeDiff, Nat.reduceLT, Nat.reduceEqDiff, Int.reduceNeg, Int.reduceLT, Int.reduceLE, Int.reduceEq, Int.reduceToNat, fG]) | ((with_reducible refine And.intro ?_ ?_); omega) | ((fail_if_success (with_reducible first | refine s1 ?_ | refine s2 ?_ | refine s3 ?_ | refine s4 ?_ | refine s5 ?_ | refine s6 ?_ | refine s7 ?_ | refine s8 ?_ | refine s9 ?_)); simp only [D.int, D.bool]))
  refine callW_self (c_dag_order ds ⟨hl, hn⟩ (pos_of hall)) ?_
  rintro _ _ ⟨rfl, rfl⟩
  repeat' (first | (with_reducible first | refine r1 ?_ | refine rK fun K hK => ?_ | refine wpS_app fun K hK => ?_ | (refine hK _ ?_; clear hK K) | refine rL fun K hK => ?_) | ((with_reducible refine And.intro (Chk.mk' ?_) ?_); kernel_rfl) | ((with_reducible refine HS.cond1 ?_ ?_); rfl) | ((with_reducible refine HS.cond0 ?_ ?_); rfl) | ((with_reducible apply HS.condB) <;> first | rfl | (with_reducible intro h)) | (with_reducible first | refine r2 ?_ | refine r3 ?_ | refine r4 ?_ | refine r5 ?_ | refine r6 ?_ | refine r7 ?_ | refine r8 ?_ | refine r9 ?_ | refine rA ?_ | refine rB ?_ | refine rC ?_ | refine rD ?_) | ((with_reducible refine blockQ_miss ?_ ?_); rfl) | (with_reducible refine Two.mk' (fun h => ?_) (fun h => ?_) <;> try (exfalso; omega)) | ((with_reducible refine Bsel.mk' (fun h => ?_) (fun h => ?_)) <;> (try simp only [h])) | ((fail_if_success (with_reducible first | refine s1 ?_ | refine s2 ?_ | refine s3 ?_ | refine s4 ?_ | refine s5 ?_ | refine s6 ?_ | refine s7 ?_ | refine s8 ?_ | refine s9 ?_)); simp (disch := omega) only [↓LD, LU, LS, LT, loadA_rf, ↓reduceIte, reduceCtorEq, Nat.reduceAdd, Nat.reduceMul, Nat.reduceSub, Nat.reduceLeDiff, Nat.reduceLT, Nat.reduceEqDiff, Int.reduceNeg, Int.reduceLT, Int.reduceLE, Int.reduceEq, Int.reduceToNat, fI]) | ((with_reducible refine And.intro ?_ ?_); omega) | ((fail_if_success (with_reducible first | refine s1 ?_ | refine s2 ?_ | refine s3 ?_ | refine s4 ?_ | refine s5 ?_ | refine s6 ?_ | refine s7 ?_ | refine s8 ?_ | refine s9 ?_)); simp only [D.int, D.bool]))
  · refine end1 rfl rfl (by kernel_rfl) .f ⟨congrArg D.int ?_, rfl⟩
    rw [hck, if_neg (by simp [hall]), if_pos (by omega)]
  · refine end1 rfl rfl (by kernel_rfl) .f ⟨congrArg D.int ?_, rfl⟩
    rw [hck, if_neg (by simp [hall]), if_neg (by omega)]

theorem check_in {ds : List Nd} (h : checkL ds = 0) : 1 ≤ ds.length ∧ ds.length ≤ 8 ∧ ds.all (fun d => rightB d ds.length) = true ∧ ds.length ≤ (orderL ds).length := by
  unfold checkL at h
  split at h
  · cases h
  · split at h
    · cases h
    · split at h
      · cases h
      · rename_i h1 h2 h3
        exact ⟨by omega, by omega, by simpa using h2, by omega⟩
theorem check_pos {ds : List Nd} (h : checkL ds = 0) : Pos ds := pos_of (check_in h).2.2.1
theorem c_dag_Order (ds : List Nd) (hf : Fit ds) : Con Try.prog 11 [.f (fG ds)] [] fun r H' => r = .tp [.f (fI (if checkL ds = 0 then orderL ds else [])), D.bool (decide (checkL ds = 0))] ∧ H' = [] := by
  refine Con.walk good fn_dag_Order (by simp) ?_
  unfold s_dag_Order
  simp only [argsE, List.length_cons, List.length_nil, Nat.reduceAdd]
  repeat' (first | (with_reducible first | refine r1 ?_ | refine rK fun K hK => ?_ | refine wpS_app fun K hK => ?_ | (refine hK _ ?_; clear hK K) | refine rL fun K hK => ?_) | ((with_reducible refine And.intro (Chk.mk' ?_) ?_); kernel_rfl) | ((with_reducible refine HS.cond1 ?_ ?_); rfl) | ((with_reducible refine HS.cond0 ?_ ?_); rfl) | ((with_reducible apply HS.condB) <;> first | rfl | (with_reducible intro h)) | (with_reducible first | refine r2 ?_ | refine r3 ?_ | refine r4 ?_ | refine r5 ?_ | refine r6 ?_ | refine r7 ?_ | refine r8 ?_ | refine r9 ?_ | refine rA ?_ | refine rB ?_ | refine rC ?_ | refine rD ?_) | ((with_reducible refine blockQ_miss ?_ ?_); rfl) | (with_reducible refine Two.mk' (fun h => ?_) (fun h => ?_) <;> try (exfalso; omega)) | ((with_reducible refine Bsel.mk' (fun h => ?_) (fun h => ?_)) <;> (try simp only [h])) | ((fail_if_success (with_reducible first | refine s1 ?_ | refine s2 ?_ | refine s3 ?_ | refine s4 ?_ | refine s5 ?_ | refine s6 ?_ | refine s7 ?_ | refine s8 ?_ | refine s9 ?_)); simp (disch := omega) only [↓LD, LU, LS, LT, loadA_rf, ↓reduceIte, reduceCtorEq, Nat.reduceAdd, Nat.reduceMul, Nat.reduceSub, Nat.reduceLeDiff, Nat.reduceLT, Nat.reduceEqDiff, Int.reduceNeg, Int.reduceLT, Int.reduceLE, Int.reduceEq, Int.reduceToNat, fG]) | ((with_reducible refine And.intro ?_ ?_); omega) | ((fail_if_success (with_reducible first | refine s1 ?_ | refine s2 ?_ | refine s3 ?_ | refine s4 ?_ | refine s5 ?_ | refine s6 ?_ | refine s7 ?_ | refine s8 ?_ | refine s9 ?_)); simp only [D.int, D.bool]))
  refine callW_self (c_dag_Check ds hf) ?_
  rintro _ _ ⟨rfl, rfl⟩
  repeat' (first | (with_reducible first | refine r1 ?_ | refine rK fun K hK => ?_ | refine wpS_app fun K hK => ?_ | (refine hK _ ?_; clear hK K) | refine rL fun K hK => ?_) | ((with_reducible refine And.intro (Chk.mk' ?_) ?_); kernel_rfl) | ((with_reducible refine HS.cond1 ?_ ?_); rfl) | ((with_reducible refine HS.cond0 ?_ ?_); rfl) | ((with_reducible apply HS.condB) <;> first | rfl | (with_reducible intro h)) | (with_reducible first | refine r2 ?_ | refine r3 ?_ | refine r4 ?_ | refine r5 ?_ | refine r6 ?_ | refine r7 ?_ | refine r8 ?_ | refine r9 ?_ | refine rA ?_ | refine rB ?_ | refine rC ?_ | refine rD ?_) | ((with_reducible refine blockQ_miss ?_ ?_); rfl) | (with_reducible refine Two.mk' (fun h => ?_) (fun h => ?_) <;> try (exfalso; omega)) | ((with_reducible refine Bsel.mk' (fun h => ?_) (fun h => ?_)) <;> (try simp only [h])) | ((fail_if_success (with_reducible first | refine s1 ?_ | refine s2 ?_ | refine s3 ?_ | refine s4 ?_ | refine s5 ?_ | refine s6 ?_ | refine s7 ?_ | refine s8 ?_ | refine s9 ?_)); simp (disch := omega) only [↓LD, LU, LS, LT, loadA_rf, ↓reduceIte, reduceCtorEq, Nat.reduceAdd, Nat.reduceMul, Nat.reduceSub, Nat.reduceLeDiff, Nat.reduceLT, Nat.reduceEqDiff, Int.reduceNeg, Int.reduceLT, Int.reduceLE, Int.reduceEq, Int.reduceToNat, D.int]) | ((with_reducible refine And.intro ?_ ?_); omega) | ((fail_if_success (with_reducible first | refine s1 ?_ | refine s2 ?_ | refine s3 ?_ | refine s4 ?_ | refine s5 ?_ | refine s6 ?_ | refine s7 ?_ | refine s8 ?_ | refine s9 ?_)); simp only [D.int, D.bool]))
  · refine callW_self (c_dag_order ds hf (check_pos h)) ?_
    rintro _ _ ⟨rfl, rfl⟩
    repeat' (first | (with_reducible first | refine r1 ?_ | refine rK fun K hK => ?_ | refine wpS_app fun K hK => ?_ | (refine hK _ ?_; clear hK K) | refine rL fun K hK => ?_) | ((with_reducible refine And.intro (Chk.mk' ?_) ?_); kernel_rfl) | ((with_reducible refine HS.cond1 ?_ ?_); rfl) | ((with_reducible refine HS.cond0 ?_ ?_); rfl) | ((with_reducible apply HS.condB) <;> first | rfl | (with_reducible intro h)) | (with_reducible first | refine r2 ?_ | refine r3 ?_ | refine r4 ?_ | refine r5 ?_ | refine r6 ?_ | refine r7 ?_ | refine r8 ?_ | refine r9 ?_ | refine rA ?_ | refine rB ?_ | refine rC ?_ | refine rD ?_) | ((with_reducible refine blockQ_miss ?_ ?_); rfl) | (with_reducible refine Two.mk' (fun h => ?_) (fun h => ?_) <;> try (exfalso; omega)) | ((with_reducible refine Bsel.mk' (fun h => ?_) (fun h => ?_)) <;> (try simp only [h])) | ((fail_if_success (with_reducible first | refine s1 ?_ | refine s2 ?_ | refine s3 ?_ | refine s4 ?_ | refine s5 ?_ | refine s6 ?_ | refine s7 ?_ | refine s8 ?_ | refine s9 ?_)); simp (disch := omega) only [↓LD, LU, LS, LT, loadA_rf, ↓reduceIte, reduceCtorEq, Nat.reduceAdd, Nat.reduceMul, Nat.reduceSub, Nat.reduceLeDiff, Nat.reduceLT, Nat.reduceEqDiff, Int.reduceNeg, Int.reduceLT, Int.reduceLE, Int.reduceEq, Int.reduceToNat, D.int]) | ((with_reducible refine And.intro ?_ ?_); omega) | ((fail_if_success (with_reducible first | refine s1 ?_ | refine s2 ?_ | refine s3 ?_ | refine s4 ?_ | refine s5 ?_ | refine s6 ?_ | refine s7 ?_ | refine s8 ?_ | refine s9 ?_)); simp only [D.int, D.bool]))
    refine end2 rfl rfl rfl rfl (by kernel_rfl) (.tps (.cons .f (.cons .f .nil))) ⟨?_, rfl⟩
    rw [if_pos h, decide_eq_true h]; rfl
  · refine end2 rfl rfl rfl rfl (by kernel_rfl) (.tps (.cons .nil (.cons .f .nil))) ⟨?_, rfl⟩
    rw [if_neg h, decide_eq_false h]; rfl

/-- Nodes that may be done, and are not. -/
def rdy (done : List Bool) : Nat → List Nd → List Int
  | _, [] => []
  | k, d :: ds => if !inB done k && metB done d.ns then (k : Int) :: rdy done (k + 1) ds else rdy done (k + 1) ds
def readyL (ds : List Nd) (done : List Bool) : List Int := if checkL ds = 0 then rdy done 0 ds else []
theorem inB_out {done : List Bool} {k : Nat} (h : done.length ≤ k) : inB done k = false := by simp [inB]; omega
theorem inB_gt {done : List Bool} {k : Nat} (h : k < done.length) : inB done k = gt done k := by simp [inB]; omega
/-- A list that grows from nil, alone. -/
def outR (n : Nat) : List Int → D × List Row
  | [] => (.f (.v (.slice none 0 0)), [])
  | x :: l => (.sl 0 0 n, [.data 3 ((x :: l).map iF)])
theorem c_dag_Ready (ds : List Nd) (done : List Bool) (hf : Fit ds) (hd : done.length < 140737488355328) : Con Try.prog 40 [.f (fG ds), .f (fB done)] [] fun r H' => r = .f (fI (readyL ds done)) ∧ H' = [] := by
  refine Con.walk good fn_dag_Ready (by simp) ?_
  unfold s_dag_Ready
  simp only [argsE, List.length_cons, List.length_nil, Nat.reduceAdd]
  repeat' (first | (with_reducible first | refine r1 ?_ | refine rK fun K hK => ?_ | refine wpS_app fun K hK => ?_ | (refine hK _ ?_; clear hK K) | refine rL fun K hK => ?_) | ((with_reducible refine And.intro (Chk.mk' ?_) ?_); kernel_rfl) | ((with_reducible refine HS.cond1 ?_ ?_); rfl) | ((with_reducible refine HS.cond0 ?_ ?_); rfl) | ((with_reducible apply HS.condB) <;> first | rfl | (with_reducible intro h)) | (with_reducible first | refine r2 ?_ | refine r3 ?_ | refine r4 ?_ | refine r5 ?_ | refine r6 ?_ | refine r7 ?_ | refine r8 ?_ | refine r9 ?_ | refine rA ?_ | refine rB ?_ | refine rC ?_ | refine rD ?_) | ((with_reducible refine blockQ_miss ?_ ?_); rfl) | (with_reducible refine Two.mk' (fun h => ?_) (fun h => ?_) <;> try (exfalso; omega)) | ((with_reducible refine Bsel.mk' (fun h => ?_) (fun h => ?_)) <;> (try simp only [h])) | ((fail_if_success (with_reducible first | refine s1 ?_ | refine s2 ?_ | refine s3 ?_ | refine s4 ?_ | refine s5 ?_ | refine s6 ?_ | refine s7 ?_ | refine s8 ?_ | refine s9 ?_)); simp (disch := omega) only [↓LD, LU, LS, LT, loadA_rf, ↓reduceIte, reduceCtorEq, Nat.reduceAdd, Nat.reduceMul, Nat.reduceSub, Nat.reduceLeDiff, Nat.reduceLT, Nat.reduceEqDiff, Int.reduceNeg, Int.reduceLT, Int.reduceLE, Int.reduceEq, Int.reduceToNat, fG]) | ((with_reducible refine And.intro ?_ ?_); omega) | ((fail_if_success (with_reducible first | refine s1 ?_ | refine s2 ?_ | refine s3 ?_ | refine s4 ?_ | refine s5 ?_ | refine s6 ?_ | refine s7 ?_ | refine s8 ?_ | refine s9 ?_)); simp only [D.int, D.bool]))
  refine callW_self (c_dag_Check ds hf) ?_
  rintro _ _ ⟨rfl, rfl⟩
  repeat' (first | (with_reducible first | refine r1 ?_ | refine rK fun K hK => ?_ | refine wpS_app fun K hK => ?_ | (refine hK _ ?_; clear hK K) | refine rL fun K hK => ?_) | ((with_reducible refine And.intro (Chk.mk' ?_) ?_); kernel_rfl) | ((with_reducible refine HS.cond1 ?_ ?_); rfl) | ((with_reducible refine HS.cond0 ?_ ?_); rfl) | ((with_reducible apply HS.condB) <;> first | rfl | (with_reducible intro h)) | (with_reducible first | refine r2 ?_ | refine r3 ?_ | refine r4 ?_ | refine r5 ?_ | refine r6 ?_ | refine r7 ?_ | refine r8 ?_ | refine r9 ?_ | refine rA ?_ | refine rB ?_ | refine rC ?_ | refine rD ?_) | ((with_reducible refine blockQ_miss ?_ ?_); rfl) | (with_reducible refine Two.mk' (fun h => ?_) (fun h => ?_) <;> try (exfalso; omega)) | ((with_reducible refine Bsel.mk' (fun h => ?_) (fun h => ?_)) <;> (try simp only [h])) | ((fail_if_success (with_reducible first | refine s1 ?_ | refine s2 ?_ | refine s3 ?_ | refine s4 ?_ | refine s5 ?_ | refine s6 ?_ | refine s7 ?_ | refine s8 ?_ | refine s9 ?_)); simp (disch := omega) only [↓LD, LU, LS, LT, loadA_rf, ↓reduceIte, reduceCtorEq, Nat.reduceAdd, Nat.reduceMul, Nat.reduceSub, Nat.reduceLeDiff, Nat.reduceLT, Nat.reduceEqDiff, Int.reduceNeg, Int.reduceLT, Int.reduceLE, Int.reduceEq, Int.reduceToNat, D.int, fB]) | ((with_reducible refine And.intro ?_ ?_); omega) | ((fail_if_success (with_reducible first | refine s1 ?_ | refine s2 ?_ | refine s3 ?_ | refine s4 ?_ | refine s5 ?_ | refine s6 ?_ | refine s7 ?_ | refine s8 ?_ | refine s9 ?_)); simp only [D.int, D.bool]))
  rotate_left
  · refine end1 rfl rfl (by kernel_rfl) .nil ⟨congrArg D.f ?_, rfl⟩
    rw [readyL, if_neg h]; rfl
  have hp := check_pos h
  have hrl : readyL ds done = rdy done 0 ds := by rw [readyL, if_pos h]
  obtain ⟨hl, hn⟩ := hf
  refine HS.loopG [0, 1, 5, 11, 12, 13] (fun x : Nat × Nat × List Int => ⟨frm 41 [(0, .f (fG ds)), (1, .f (fB done)), (5, (outR x.2.1 x.2.2).1), (11, .f (fG ds)), (12, D.int ds.length), (13, D.int x.1)], (outR x.2.1 x.2.2).2, []⟩)
    (fun x => x.1 ≤ ds.length ∧ x.2.2.length = x.2.1 ∧ x.2.1 ≤ x.1 ∧ rdy done 0 ds = x.2.2 ++ rdy done x.1 (ds.drop x.1)) (fun x => ds.length - x.1) (0, 0, []) (by kernel_rfl) ⟨Nat.zero_le _, rfl, Nat.le_refl _, rfl⟩ ?_
  rintro ⟨k, n, out⟩ ⟨hk, ho, hnk, hr⟩
  dsimp only at hk ho hnk hr
  rcases out with _ | ⟨a, l⟩
  · try simp only [List.length_cons] at ho
    repeat' (first | (with_reducible first | refine r1 ?_ | refine rK fun K hK => ?_ | refine wpS_app fun K hK => ?_ | (refine hK _ ?_; clear hK K) | refine rL fun K hK => ?_) | ((with_reducible refine And.intro (Chk.mk' ?_) ?_); kernel_rfl) | ((with_reducible refine HS.cond1 ?_ ?_); rfl) | ((with_reducible refine HS.cond0 ?_ ?_); rfl) | ((with_reducible apply HS.condB) <;> first | rfl | (with_reducible intro h)) | (with_reducible first | refine r2 ?_ | refine r3 ?_ | refine r4 ?_ | refine r5 ?_ | refine r6 ?_ | refine r7 ?_ | refine r8 ?_ | refine r9 ?_ | refine rA ?_ | refine rB ?_ | refine rC ?_ | refine rD ?_) | ((with_reducible refine blockQ_miss ?_ ?_); rfl) | (with_reducible refine Two.mk' (fun h => ?_) (fun h => ?_) <;> try (exfalso; omega)) | ((with_reducible refine Bsel.mk' (fun h => ?_) (fun h => ?_)) <;> (try simp only [h])) | ((fail_if_success (with_reducible first | refine s1 ?_ | refine s2 ?_ | refine s3 ?_ | refine s4 ?_ | refine s5 ?_ | refine s6 ?_ | refine s7 ?_ | refine s8 ?_ | refine s9 ?_)); simp (disch := omega) only [↓LD, LU, LS, LT, loadA_rf, ↓reduceIte, reduceCtorEq, Nat.reduceAdd, Nat.reduceMul, Nat.reduceSub, Nat.reduceLeDiff, Nat.reduceLT, Nat.reduceEqDiff, Int.reduceNeg, Int.reduceLT, Int.reduceLE, Int.reduceEq, Int.reduceToNat, fG, fB, outR, nd_load, nd_cs, nd_at0, nd_at1, nd_at2, -loadA_rf]) | ((with_reducible refine And.intro ?_ ?_); omega) | ((fail_if_success (with_reducible first | refine s1 ?_ | refine s2 ?_ | refine s3 ?_ | refine s4 ?_ | refine s5 ?_ | refine s6 ?_ | refine s7 ?_ | refine s8 ?_ | refine s9 ?_)); simp only [D.int, D.bool]))
    · have hin : inB done k = false := inB_out (by omega)
      refine callW_peek (c_dag_met (gt ds k).ns done (hp _ (gt_mem (by omega))) (hn _ (gt_mem (by omega))) hd) (.cons .f (.cons .f .nil)) ?_ ?_
      · rintro _ _ ⟨rfl, rfl⟩
        exact ⟨.f .v, by simp⟩
      rintro _ _ ⟨rfl, rfl⟩
      repeat' (first | (with_reducible first | refine r1 ?_ | refine rK fun K hK => ?_ | refine wpS_app fun K hK => ?_ | (refine hK _ ?_; clear hK K) | refine rL fun K hK => ?_) | ((with_reducible refine And.intro (Chk.mk' ?_) ?_); kernel_rfl) | ((with_reducible refine HS.cond1 ?_ ?_); rfl) | ((with_reducible refine HS.cond0 ?_ ?_); rfl) | ((with_reducible apply HS.condB) <;> first | rfl | (with_reducible intro h)) | (with_reducible first | refine r2 ?_ | refine r3 ?_ | refine r4 ?_ | refine r5 ?_ | refine r6 ?_ | refine r7 ?_ | refine r8 ?_ | refine r9 ?_ | refine rA ?_ | refine rB ?_ | refine rC ?_ | refine rD ?_) | ((with_reducible refine blockQ_miss ?_ ?_); rfl) | (with_reducible refine Two.mk' (fun h => ?_) (fun h => ?_) <;> try (exfalso; omega)) | ((with_reducible refine Bsel.mk' (fun h => ?_) (fun h => ?_)) <;> (try simp only [h])) | ((fail_if_success (with_reducible first | refine s1 ?_ | refine s2 ?_ | refine s3 ?_ | refine s4 ?_ | refine s5 ?_ | refine s6 ?_ | refine s7 ?_ | refine s8 ?_ | refine s9 ?_)); simp (disch := omega) only [↓LD, LU, LS, LT, loadA_rf, ↓reduceIte, reduceCtorEq, Nat.reduceAdd, Nat.reduceMul, Nat.reduceSub, Nat.reduceLeDiff, Nat.reduceLT, Nat.reduceEqDiff, Int.reduceNeg, Int.reduceLT, Int.reduceLE, Int.reduceEq, Int.reduceToNat, fG, fB, List.append_nil]) | ((with_reducible refine And.intro ?_ ?_); omega) | ((fail_if_success (with_reducible first | refine s1 ?_ | refine s2 ?_ | refine s3 ?_ | refine s4 ?_ | refine s5 ?_ | refine s6 ?_ | refine s7 ?_ | refine s8 ?_ | refine s9 ?_)); simp only [D.int, D.bool]))
      · subst ho
        refine Next.mk (k + 1, 0 + 1, [] ++ [(k : Int)]) (by kernel_rfl) ⟨by omega, by simp, by simp at * <;> omega, ?_⟩ (by omega)
        rw [hr, drop_gt (by omega), rdy, if_pos (by simp [hin, h])]; simp
      · refine Next.mk (k + 1, n, []) (by kernel_rfl) ⟨by omega, ho, by dsimp only; omega, ?_⟩ (by omega)
        rw [hr, drop_gt (by omega), rdy, if_neg (by simp [hin, h])]
    · have hin : inB done k = false := by rw [inB_gt (by omega)]; simpa using h
      refine callW_peek (c_dag_met (gt ds k).ns done (hp _ (gt_mem (by omega))) (hn _ (gt_mem (by omega))) hd) (.cons .f (.cons .f .nil)) ?_ ?_
      · rintro _ _ ⟨rfl, rfl⟩
        exact ⟨.f .v, by simp⟩
      rintro _ _ ⟨rfl, rfl⟩
      repeat' (first | (with_reducible first | refine r1 ?_ | refine rK fun K hK => ?_ | refine wpS_app fun K hK => ?_ | (refine hK _ ?_; clear hK K) | refine rL fun K hK => ?_) | ((with_reducible refine And.intro (Chk.mk' ?_) ?_); kernel_rfl) | ((with_reducible refine HS.cond1 ?_ ?_); rfl) | ((with_reducible refine HS.cond0 ?_ ?_); rfl) | ((with_reducible apply HS.condB) <;> first | rfl | (with_reducible intro h)) | (with_reducible first | refine r2 ?_ | refine r3 ?_ | refine r4 ?_ | refine r5 ?_ | refine r6 ?_ | refine r7 ?_ | refine r8 ?_ | refine r9 ?_ | refine rA ?_ | refine rB ?_ | refine rC ?_ | refine rD ?_) | ((with_reducible refine blockQ_miss ?_ ?_); rfl) | (with_reducible refine Two.mk' (fun h => ?_) (fun h => ?_) <;> try (exfalso; omega)) | ((with_reducible refine Bsel.mk' (fun h => ?_) (fun h => ?_)) <;> (try simp only [h])) | ((fail_if_success (with_reducible first | refine s1 ?_ | refine s2 ?_ | refine s3 ?_ | refine s4 ?_ | refine s5 ?_ | refine s6 ?_ | refine s7 ?_ | refine s8 ?_ | refine s9 ?_)); simp (disch := omega) only [↓LD, LU, LS, LT, loadA_rf, ↓reduceIte, reduceCtorEq, Nat.reduceAdd, Nat.reduceMul, Nat.reduceSub, Nat.reduceLeDiff, Nat.reduceLT, Nat.reduceEqDiff, Int.reduceNeg, Int.reduceLT, Int.reduceLE, Int.reduceEq, Int.reduceToNat, fG, fB, List.append_nil]) | ((with_reducible refine And.intro ?_ ?_); omega) | ((fail_if_success (with_reducible first | refine s1 ?_ | refine s2 ?_ | refine s3 ?_ | refine s4 ?_ | refine s5 ?_ | refine s6 ?_ | refine s7 ?_ | refine s8 ?_ | refine s9 ?_)); simp only [D.int, D.bool]))
      · subst ho
        refine Next.mk (k + 1, 0 + 1, [] ++ [(k : Int)]) (by kernel_rfl) ⟨by omega, by simp, by simp at * <;> omega, ?_⟩ (by omega)
        rw [hr, drop_gt (by omega), rdy, if_pos (by simp [hin, h])]; simp
      · refine Next.mk (k + 1, n, []) (by kernel_rfl) ⟨by omega, ho, by dsimp only; omega, ?_⟩ (by omega)
        rw [hr, drop_gt (by omega), rdy, if_neg (by simp [hin, h])]
    · have hin : inB done k = true := by rw [inB_gt (by omega)]; simpa using h
      refine Next.mk (k + 1, n, []) (by kernel_rfl) ⟨by omega, ho, by dsimp only; omega, ?_⟩ (by omega)
      rw [hr, drop_gt (by omega), rdy, if_neg (by simp [hin])]
    · refine end1 rfl rfl (by kernel_rfl) (.nil) ⟨congrArg D.f ?_, rfl⟩
      rw [hrl, hr, (List.drop_of_length_le (by omega) : List.drop k ds = []), rdy, List.append_nil]
      first | rfl | (unfold fI; rw [← ho]; rfl)
  · try simp only [List.length_cons] at ho
    repeat' (first | (with_reducible first | refine r1 ?_ | refine rK fun K hK => ?_ | refine wpS_app fun K hK => ?_ | (refine hK _ ?_; clear hK K) | refine rL fun K hK => ?_) | ((with_reducible refine And.intro (Chk.mk' ?_) ?_); kernel_rfl) | ((with_reducible refine HS.cond1 ?_ ?_); rfl) | ((with_reducible refine HS.cond0 ?_ ?_); rfl) | ((with_reducible apply HS.condB) <;> first | rfl | (with_reducible intro h)) | (with_reducible first | refine r2 ?_ | refine r3 ?_ | refine r4 ?_ | refine r5 ?_ | refine r6 ?_ | refine r7 ?_ | refine r8 ?_ | refine r9 ?_ | refine rA ?_ | refine rB ?_ | refine rC ?_ | refine rD ?_) | ((with_reducible refine blockQ_miss ?_ ?_); rfl) | (with_reducible refine Two.mk' (fun h => ?_) (fun h => ?_) <;> try (exfalso; omega)) | ((with_reducible refine Bsel.mk' (fun h => ?_) (fun h => ?_)) <;> (try simp only [h])) | ((fail_if_success (with_reducible first | refine s1 ?_ | refine s2 ?_ | refine s3 ?_ | refine s4 ?_ | refine s5 ?_ | refine s6 ?_ | refine s7 ?_ | refine s8 ?_ | refine s9 ?_)); simp (disch := omega) only [↓LD, LU, LS, LT, loadA_rf, ↓reduceIte, reduceCtorEq, Nat.reduceAdd, Nat.reduceMul, Nat.reduceSub, Nat.reduceLeDiff, Nat.reduceLT, Nat.reduceEqDiff, Int.reduceNeg, Int.reduceLT, Int.reduceLE, Int.reduceEq, Int.reduceToNat, fG, fB, outR, nd_load, nd_cs, nd_at0, nd_at1, nd_at2, -loadA_rf]) | ((with_reducible refine And.intro ?_ ?_); omega) | ((fail_if_success (with_reducible first | refine s1 ?_ | refine s2 ?_ | refine s3 ?_ | refine s4 ?_ | refine s5 ?_ | refine s6 ?_ | refine s7 ?_ | refine s8 ?_ | refine s9 ?_)); simp only [D.int, D.bool]))
    · have hin : inB done k = false := inB_out (by omega)
      refine callW_peek (c_dag_met (gt ds k).ns done (hp _ (gt_mem (by omega))) (hn _ (gt_mem (by omega))) hd) (.cons .f (.cons .f .nil)) ?_ ?_
      · rintro _ _ ⟨rfl, rfl⟩
        exact ⟨.f .v, by simp⟩
      rintro _ _ ⟨rfl, rfl⟩
      repeat' (first | (with_reducible first | refine r1 ?_ | refine rK fun K hK => ?_ | refine wpS_app fun K hK => ?_ | (refine hK _ ?_; clear hK K) | refine rL fun K hK => ?_) | ((with_reducible refine And.intro (Chk.mk' ?_) ?_); kernel_rfl) | ((with_reducible refine HS.cond1 ?_ ?_); rfl) | ((with_reducible refine HS.cond0 ?_ ?_); rfl) | ((with_reducible apply HS.condB) <;> first | rfl | (with_reducible intro h)) | (with_reducible first | refine r2 ?_ | refine r3 ?_ | refine r4 ?_ | refine r5 ?_ | refine r6 ?_ | refine r7 ?_ | refine r8 ?_ | refine r9 ?_ | refine rA ?_ | refine rB ?_ | refine rC ?_ | refine rD ?_) | ((with_reducible refine blockQ_miss ?_ ?_); rfl) | (with_reducible refine Two.mk' (fun h => ?_) (fun h => ?_) <;> try (exfalso; omega)) | ((with_reducible refine Bsel.mk' (fun h => ?_) (fun h => ?_)) <;> (try simp only [h])) | ((fail_if_success (with_reducible first | refine s1 ?_ | refine s2 ?_ | refine s3 ?_ | refine s4 ?_ | refine s5 ?_ | refine s6 ?_ | refine s7 ?_ | refine s8 ?_ | refine s9 ?_)); simp (disch := omega) only [↓LD, LU, LS, LT, loadA_rf, ↓reduceIte, reduceCtorEq, Nat.reduceAdd, Nat.reduceMul, Nat.reduceSub, Nat.reduceLeDiff, Nat.reduceLT, Nat.reduceEqDiff, Int.reduceNeg, Int.reduceLT, Int.reduceLE, Int.reduceEq, Int.reduceToNat, fG, fB, List.append_nil]) | ((with_reducible refine And.intro ?_ ?_); omega) | ((fail_if_success (with_reducible first | refine s1 ?_ | refine s2 ?_ | refine s3 ?_ | refine s4 ?_ | refine s5 ?_ | refine s6 ?_ | refine s7 ?_ | refine s8 ?_ | refine s9 ?_)); simp only [D.int, D.bool]))
      · subst ho
        refine Next.mk (k + 1, (l.length + 1) + 1, (a :: l) ++ [(k : Int)]) (by kernel_rfl) ⟨by omega, by simp, by simp at * <;> omega, ?_⟩ (by omega)
        rw [hr, drop_gt (by omega), rdy, if_pos (by simp [hin, h])]; simp
      · refine Next.mk (k + 1, n, (a :: l)) (by kernel_rfl) ⟨by omega, ho, by dsimp only; omega, ?_⟩ (by omega)
        rw [hr, drop_gt (by omega), rdy, if_neg (by simp [hin, h])]
    · have hin : inB done k = false := by rw [inB_gt (by omega)]; simpa using h
      refine callW_peek (c_dag_met (gt ds k).ns done (hp _ (gt_mem (by omega))) (hn _ (gt_mem (by omega))) hd) (.cons .f (.cons .f .nil)) ?_ ?_
      · rintro _ _ ⟨rfl, rfl⟩
        exact ⟨.f .v, by simp⟩
      rintro _ _ ⟨rfl, rfl⟩
      repeat' (first | (with_reducible first | refine r1 ?_ | refine rK fun K hK => ?_ | refine wpS_app fun K hK => ?_ | (refine hK _ ?_; clear hK K) | refine rL fun K hK => ?_) | ((with_reducible refine And.intro (Chk.mk' ?_) ?_); kernel_rfl) | ((with_reducible refine HS.cond1 ?_ ?_); rfl) | ((with_reducible refine HS.cond0 ?_ ?_); rfl) | ((with_reducible apply HS.condB) <;> first | rfl | (with_reducible intro h)) | (with_reducible first | refine r2 ?_ | refine r3 ?_ | refine r4 ?_ | refine r5 ?_ | refine r6 ?_ | refine r7 ?_ | refine r8 ?_ | refine r9 ?_ | refine rA ?_ | refine rB ?_ | refine rC ?_ | refine rD ?_) | ((with_reducible refine blockQ_miss ?_ ?_); rfl) | (with_reducible refine Two.mk' (fun h => ?_) (fun h => ?_) <;> try (exfalso; omega)) | ((with_reducible refine Bsel.mk' (fun h => ?_) (fun h => ?_)) <;> (try simp only [h])) | ((fail_if_success (with_reducible first | refine s1 ?_ | refine s2 ?_ | refine s3 ?_ | refine s4 ?_ | refine s5 ?_ | refine s6 ?_ | refine s7 ?_ | refine s8 ?_ | refine s9 ?_)); simp (disch := omega) only [↓LD, LU, LS, LT, loadA_rf, ↓reduceIte, reduceCtorEq, Nat.reduceAdd, Nat.reduceMul, Nat.reduceSub, Nat.reduceLeDiff, Nat.reduceLT, Nat.reduceEqDiff, Int.reduceNeg, Int.reduceLT, Int.reduceLE, Int.reduceEq, Int.reduceToNat, fG, fB, List.append_nil]) | ((with_reducible refine And.intro ?_ ?_); omega) | ((fail_if_success (with_reducible first | refine s1 ?_ | refine s2 ?_ | refine s3 ?_ | refine s4 ?_ | refine s5 ?_ | refine s6 ?_ | refine s7 ?_ | refine s8 ?_ | refine s9 ?_)); simp only [D.int, D.bool]))
      · subst ho
        refine Next.mk (k + 1, (l.length + 1) + 1, (a :: l) ++ [(k : Int)]) (by kernel_rfl) ⟨by omega, by simp, by simp at * <;> omega, ?_⟩ (by omega)
        rw [hr, drop_gt (by omega), rdy, if_pos (by simp [hin, h])]; simp
      · refine Next.mk (k + 1, n, (a :: l)) (by kernel_rfl) ⟨by omega, ho, by dsimp only; omega, ?_⟩ (by omega)
        rw [hr, drop_gt (by omega), rdy, if_neg (by simp [hin, h])]
    · have hin : inB done k = true := by rw [inB_gt (by omega)]; simpa using h
      refine Next.mk (k + 1, n, (a :: l)) (by kernel_rfl) ⟨by omega, ho, by dsimp only; omega, ?_⟩ (by omega)
      rw [hr, drop_gt (by omega), rdy, if_neg (by simp [hin])]
    · refine end1 rfl rfl (by kernel_rfl) (.sl rfl (fun e => by omega)) ⟨congrArg D.f ?_, rfl⟩
      rw [hrl, hr, (List.drop_of_length_le (by omega) : List.drop k ds = []), rdy, List.append_nil]
      first | rfl | (unfold fI; rw [← ho]; rfl)
end Go.Proofs.Ytjbkckhpoicaeaa.Mir
