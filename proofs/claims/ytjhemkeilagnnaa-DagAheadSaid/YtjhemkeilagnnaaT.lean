/- Plain things as the machine holds them: lists of ints, of bools, graphs. -/
import Derived.Test.YtjhemkeilagnnaaB
import Derived.Test.YtjhemkeilagnnaaMirUse
namespace Go.Proofs.Ytjhemkeilagnnaa.Mir
open Go Go.RowKit

theorem isHS {P : Program} {n : Nat} {c : SCode} {s : St} {Q : Out → St → Prop} (h : HS P n c s Q) : HS P n c s Q := h
theorem isRet {n : Nat} {l : List SR} {Q : D → List Row → Prop} {s : St} (h : RetS n l Q s) : RetS n l Q s := h
theorem isCall {P : Program} {f : D} {l : List D} {H : List Row} {K : D → List Row → Prop} (h : callW P f l H K) : callW P f l H K := h
theorem isNext {n0 : Nat} {keep : List Nat} {α : Type} {st : α → St} {p : α → Prop} {m : α → Nat} {x : α} {s : St} (h : Next n0 keep st p m x s) : Next n0 keep st p m x s := h
theorem isThen {next : St → Prop} {Q : Out → St → Prop} {o : Out} {s : St} (h : thenQ next Q o s) : thenQ next Q o s := h
theorem isBlock {i : Nat} {Q : Out → St → Prop} {o : Out} {s : St} (h : blockQ i Q o s) : blockQ i Q o s := h
theorem if_some {α : Type} {c : Prop} [Decidable c] {a : α} (h : c) : (if c then some a else none) = some a := if_pos h
theorem isNextP {n : Nat} {α : Type} {st : α → List (Nat × D)} {hs : α → List Row} {p : α → Prop} {m : α → Nat} {x : α} {s : St} (h : NextP n st hs p m x s) : NextP n st hs p m x s := h
abbrev iF (n : Int) : F := .v (.int .i64 n)
abbrev bF (b : Bool) : F := .v (.bool b)
def fI (l : List Int) : F := .s (l.map iF) l.length
def fB (l : List Bool) : F := .s (l.map bF) l.length
theorem set_map_b {l : List Bool} {i : Nat} {b : Bool} : (l.map bF).set i (.v (.bool b)) = (l.set i b).map bF := by rw [List.map_set]
theorem app_map_i {l : List Int} {z : Int} : l.map iF ++ [.v (.int .i64 z)] = (l ++ [z]).map iF := by rw [List.map_append]; rfl
theorem most_eq : most = 140737488355328 := id rfl
theorem plain_ints (l : List Int) : ∀ x ∈ l.map iF, PlainF x := fun x hx => by
  obtain ⟨n, _, rfl⟩ := List.mem_map.1 hx
  exact .v

/-- Elements of so many cells each. -/
theorem flat_at {α : Type} [Inhabited α] {cs : α → List F} {n : Nat} (hn : ∀ x, (cs x).length = n) {l : List α} {k j : Nat} (hk : k < l.length) (hj : j < n) : (l.flatMap cs)[k * n + j]? = (cs (gt l k))[j]? := by
  rw [gt_eq hk]
  exact (flat_getF cs n hn l k hk j hj)
where
  flat_getF {α : Type} (f : α → List F) (n : Nat) (hf : ∀ x, (f x).length = n) : ∀ (xs : List α) (k : Nat) (hk : k < xs.length) (i : Nat), i < n → (xs.flatMap f)[k * n + i]? = (f xs[k])[i]?
    | [], k, hk, _, _ => by simp at hk
    | x :: xs, 0, _, i, hi => by
      rw [List.flatMap_cons, Nat.zero_mul, Nat.zero_add, List.getElem?_append_left (by rw [hf]; exact hi)]; rfl
    | x :: xs, k + 1, hk, i, hi => by
      rw [List.flatMap_cons, List.getElem?_append_right (by rw [hf, Nat.add_mul]; omega), hf, show (k + 1) * n + i - n = k * n + i by rw [Nat.add_mul]; omega]
      exact flat_getF f n hf xs k (by simpa using hk) i hi
theorem flat_len' {α : Type} {cs : α → List F} {n : Nat} (hn : ∀ x, (cs x).length = n) (l : List α) : (l.flatMap cs).length = l.length * n := by
  induction l with
  | nil => simp
  | cons x l ih => rw [List.flatMap_cons, List.length_append, hn, ih, List.length_cons, Nat.add_mul]; omega
theorem flat_take {α : Type} [Inhabited α] {cs : α → List F} {n : Nat} (hn : ∀ x, (cs x).length = n) {l : List α} {k : Nat} (hk : k < l.length) : ((l.flatMap cs).drop (k * n)).take n = cs (gt l k) := by
  apply List.ext_getElem?
  intro j
  rw [List.getElem?_take]
  split
  · rename_i hj
    rw [List.getElem?_drop, flat_at hn hk hj]
  · rw [List.getElem?_eq_none (by rw [hn]; omega)]
theorem flat_loadA {α : Type} [Inhabited α] {cs : α → List F} {n : Nat} (hn : ∀ x, (cs x).length = n) {H : List Row} {l : List α} {k : Nat} (hk : k < l.length) : loadA H n (.rf ((l.flatMap cs).drop (k * n))) = some (.ag ((cs (gt l k)).map .f)) := by
  have hl := flat_len' hn l
  have : (k + 1) * n ≤ l.length * n := Nat.mul_le_mul_right n hk
  rw [Nat.add_mul] at this
  rw [loadA_rf, if_pos (by rw [List.length_drop, hl]; omega), ← flat_take hn hk, List.map_take]
theorem flat_drop {α : Type} {cs : α → List F} {n : Nat} (hn : ∀ x, (cs x).length = n) : ∀ (l : List α) (k : Nat), (l.flatMap cs).drop (k * n) = (l.drop k).flatMap cs
  | l, 0 => by simp
  | [], k + 1 => by simp
  | x :: l, k + 1 => by
    rw [List.flatMap_cons, List.drop_succ_cons, ← flat_drop hn l k, Nat.add_mul, Nat.one_mul, Nat.add_comm, ← List.drop_drop, List.drop_left' (hn x)]

/-- A node. -/
structure Nd where
  ns : List Int
  tr : Int
  le : Int
  deriving Inhabited, DecidableEq
def Nd.cs (d : Nd) : List F := [fI d.ns, iF d.tr, iF d.le]
theorem Nd.cs_len (d : Nd) : d.cs.length = 3 := rfl
theorem nd_cs {d : Nd} : d.cs = [fI d.ns, iF d.tr, iF d.le] := id rfl
def fG (g : List Nd) : F := .s (g.flatMap Nd.cs) g.length
theorem nd_load {H : List Row} {g : List Nd} {k : Nat} (hk : k < g.length) : loadA H 3 (.rf ((g.flatMap Nd.cs).drop (k * 3))) = some (.ag ((Nd.cs (gt g k)).map .f)) := flat_loadA Nd.cs_len hk
theorem nd_at0 {g : List Nd} {k : Nat} (hk : k < g.length) : (g.flatMap Nd.cs)[k * 3]? = some (fI (gt g k).ns) := flat_at (j := 0) Nd.cs_len hk (by omega)
theorem nd_at1 {g : List Nd} {k : Nat} (hk : k < g.length) : (g.flatMap Nd.cs)[k * 3 + 1]? = some (iF (gt g k).tr) := flat_at (j := 1) Nd.cs_len hk (by omega)
theorem nd_at2 {g : List Nd} {k : Nat} (hk : k < g.length) : (g.flatMap Nd.cs)[k * 3 + 2]? = some (iF (gt g k).le) := flat_at (j := 2) Nd.cs_len hk (by omega)
/-- A nil slice in a box is looked at as a list without elements. -/
theorem View.nil0 {P : Program} {n0 : Nat} {ts : List D} {H : List Row} {dr : List Nat} {r i : Nat} {T : TypeId} {xs : List D} (hH : H[r]? = some (.box T xs)) (hx : xs[i]? = some (.f (.v (.slice none 0 0)))) :
    View P n0 ⟨ts, H, dr⟩ ⟨ts, H.set r (.box T (xs.set i (.f (.s [] 0)))), []⟩ := by
  intro X w0 φ0 H0 w φ a _ hr
  have hlt : r < H.length := (List.getElem?_eq_some_iff.1 hH).1
  have hget : ∀ (q : Nat) (row : Row), (H.set r (.box T (xs.set i (.f (.s [] 0)))))[q]? = some row → (q = r ∧ row = .box T (xs.set i (.f (.s [] 0)))) ∨ H[q]? = some row := by
    intro q row h
    rw [List.getElem?_set] at h
    split at h
    · rename_i e; subst e
      try rw [if_pos hlt] at h
      exact .inl ⟨rfl, (Option.some.inj h).symm⟩
    · exact .inr h
  have hback : ∀ (q : Nat) (row : Row), H[q]? = some row → ∃ row' : Row, (H.set r (.box T (xs.set i (.f (.s [] 0)))))[q]? = some row' ∧ row'.live = row.live := by
    intro q row h
    rw [List.getElem?_set]
    split
    · rename_i e; subst e
      try rw [if_pos hlt]
      rw [hH] at h
      cases h
      exact ⟨_, rfl, rfl⟩
    · exact ⟨row, h, rfl⟩
  have hlive : ∀ b, Live φ (H.set r (.box T (xs.set i (.f (.s [] 0))))) b ↔ Live φ H b := by
    intro b
    constructor
    · rintro ⟨q, row, h1, h2, h3⟩
      rcases hget q row h1 with ⟨rfl, rfl⟩ | h
      · exact ⟨q, _, hH, rfl, h3⟩
      · exact ⟨q, row, h, h2, h3⟩
    · rintro ⟨q, row, h1, h2, h3⟩
      obtain ⟨row', h4, h5⟩ := hback q row h1
      exact ⟨q, row', h4, by rw [h5]; exact h2, h3⟩
  have hav : Av X φ (H.set r (.box T (xs.set i (.f (.s [] 0))))) = Av X φ H := funext fun b => propext (or_congr Iff.rfl (hlive b))
  have hlen : (H.set r (.box T (xs.set i (.f (.s [] 0))))).length = H.length := List.length_set
  refine ⟨φ, ⟨⟨?_, ?_, ?_, hr.sim.heap.old⟩, ?_, hr.sim.defers⟩, ⟨?_, hr.ons.same, hr.ons.keep, fun b h => hr.ons.fresh b ((hlive b).1 h)⟩⟩
  · intro q row h
    dsimp only at h ⊢
    rw [hav, hlen]
    rcases hget q row h with ⟨rfl, rfl⟩ | h
    · obtain ⟨h0, cs, hc, ⟨hl, hg⟩, hone⟩ := hr.sim.heap.rows q _ hH
      refine ⟨h0, cs, hc, ⟨by rw [List.length_set]; exact hl, fun j d u hd hu => ?_⟩, hone⟩
      rw [List.getElem?_set] at hd
      split at hd
      · rename_i e; subst e
        have hd : some (D.f (.s [] 0)) = some d := by first | exact hd | (split at hd <;> first | exact hd | cases hd)
        cases hd
        have := hg i _ u hx hu
        cases this with | f h => cases h with | v _ => exact .f .s0
      · exact hg j d u hd hu
    · exact hr.sim.heap.rows q row h
  · intro q s row row' h1 h2 h3 h4 h5
    have k : ∀ (q : Nat) (row : Row), (H.set r (.box T (xs.set i (.f (.s [] 0)))))[q]? = some row → row.live = true → ∃ row0, H[q]? = some row0 ∧ row0.live = true := by
      intro q row h hl
      rcases hget q row h with ⟨rfl, rfl⟩ | h
      · exact ⟨_, hH, rfl⟩
      · exact ⟨row, h, hl⟩
    obtain ⟨a1, b1, c1⟩ := k q row h1 h3
    obtain ⟨a2, b2, c2⟩ := k s row' h2 h4
    exact hr.sim.heap.apart q s a1 a2 b1 b2 c1 c2 h5
  · intro q row h1 h3
    rcases hget q row h1 with ⟨rfl, rfl⟩ | h
    · exact hr.sim.heap.off q _ hH rfl
    · exact hr.sim.heap.off q row h h3
  · dsimp only
    rw [hav, hlen]
    exact hr.sim.tmps
  · dsimp only
    rw [hlen]
    exact hr.ons.len
/-- A nil slice in a row of data is looked at as a list without elements. -/
theorem View.nild {P : Program} {n0 : Nat} {ts : List D} {H : List Row} {dr : List Nat} {r i : Nat} {T : TypeId} {xs : List F} (hH : H[r]? = some (.data T xs)) (hx : xs[i]? = some (.v (.slice none 0 0))) :
    View P n0 ⟨ts, H, dr⟩ ⟨ts, H.set r (.data T (xs.set i (.s [] 0))), []⟩ := by
  intro X w0 φ0 H0 w φ a _ hr
  have hlt : r < H.length := (List.getElem?_eq_some_iff.1 hH).1
  have hget : ∀ (q : Nat) (row : Row), (H.set r (.data T (xs.set i (.s [] 0))))[q]? = some row → (q = r ∧ row = .data T (xs.set i (.s [] 0))) ∨ H[q]? = some row := by
    intro q row h
    rw [List.getElem?_set] at h
    split at h
    · rename_i e; subst e
      try rw [if_pos hlt] at h
      exact .inl ⟨rfl, (Option.some.inj h).symm⟩
    · exact .inr h
  have hback : ∀ (q : Nat) (row : Row), H[q]? = some row → ∃ row' : Row, (H.set r (.data T (xs.set i (.s [] 0))))[q]? = some row' ∧ row'.live = row.live := by
    intro q row h
    rw [List.getElem?_set]
    split
    · rename_i e; subst e
      try rw [if_pos hlt]
      rw [hH] at h
      cases h
      exact ⟨_, rfl, rfl⟩
    · exact ⟨row, h, rfl⟩
  have hlive : ∀ b, Live φ (H.set r (.data T (xs.set i (.s [] 0)))) b ↔ Live φ H b := by
    intro b
    constructor
    · rintro ⟨q, row, h1, h2, h3⟩
      rcases hget q row h1 with ⟨rfl, rfl⟩ | h
      · exact ⟨q, _, hH, rfl, h3⟩
      · exact ⟨q, row, h, h2, h3⟩
    · rintro ⟨q, row, h1, h2, h3⟩
      obtain ⟨row', h4, h5⟩ := hback q row h1
      exact ⟨q, row', h4, by rw [h5]; exact h2, h3⟩
  have hav : Av X φ (H.set r (.data T (xs.set i (.s [] 0)))) = Av X φ H := funext fun b => propext (or_congr Iff.rfl (hlive b))
  have hlen : (H.set r (.data T (xs.set i (.s [] 0)))).length = H.length := List.length_set
  refine ⟨φ, ⟨⟨?_, ?_, ?_, hr.sim.heap.old⟩, ?_, hr.sim.defers⟩, ⟨?_, hr.ons.same, hr.ons.keep, fun b h => hr.ons.fresh b ((hlive b).1 h)⟩⟩
  · intro q row h
    dsimp only at h ⊢
    rw [hav, hlen]
    rcases hget q row h with ⟨rfl, rfl⟩ | h
    · obtain ⟨pre, us, post, hc, hp, ⟨hl, hg⟩⟩ := hr.sim.heap.rows q _ hH
      refine ⟨pre, us, post, hc, hp, ⟨by rw [List.length_set]; exact hl, fun j d u hd hu => ?_⟩⟩
      rw [List.getElem?_set] at hd
      split at hd
      · rename_i e; subst e
        have hd : some (F.s [] 0) = some d := by first | exact hd | (split at hd <;> first | exact hd | cases hd)
        cases hd
        have := hg i _ u hx hu
        cases this with | v _ => exact .s0
      · exact hg j d u hd hu
    · exact hr.sim.heap.rows q row h
  · intro q s row row' h1 h2 h3 h4 h5
    have k : ∀ (q : Nat) (row : Row), (H.set r (.data T (xs.set i (.s [] 0))))[q]? = some row → row.live = true → ∃ row0, H[q]? = some row0 ∧ row0.live = true := by
      intro q row h hl
      rcases hget q row h with ⟨rfl, rfl⟩ | h
      · exact ⟨_, hH, rfl⟩
      · exact ⟨row, h, hl⟩
    obtain ⟨a1, b1, c1⟩ := k q row h1 h3
    obtain ⟨a2, b2, c2⟩ := k s row' h2 h4
    exact hr.sim.heap.apart q s a1 a2 b1 b2 c1 c2 h5
  · intro q row h1 h3
    rcases hget q row h1 with ⟨rfl, rfl⟩ | h
    · exact hr.sim.heap.off q _ hH rfl
    · exact hr.sim.heap.off q row h h3
  · dsimp only
    rw [hav, hlen]
    exact hr.sim.tmps
  · dsimp only
    rw [hlen]
    exact hr.ons.len
/-- The end of a part of the code, told. -/
def OutN (P : Program) (n0 : Nat) {α : Type} (st : α → St) (p : α → Prop) (o : Out) (s : St) : Prop := o = .normal ∧ ∃ y, View P n0 s (st y) ∧ p y
theorem OutN.mk {P : Program} {n0 : Nat} {α : Type} {st : α → St} {p : α → Prop} {s : St} (keep : List Nat) (y : α) (h : sweepW n0 keep s = some (st y)) (hp : p y) : OutN P n0 st p .normal s := ⟨rfl, y, View.sweep h, hp⟩
theorem OutN.via {P : Program} {n0 : Nat} {α : Type} {st : α → St} {p : α → Prop} {s s1 : St} (keep : List Nat) (y : α) (h : sweepW n0 keep s = some s1) (hv : View P n0 s1 (st y)) (hp : p y) : OutN P n0 st p .normal s := ⟨rfl, y, (View.sweep h).trans hv, hp⟩
theorem isOutN {P : Program} {n0 : Nat} {α : Type} {st : α → St} {p : α → Prop} {o : Out} {s : St} (h : OutN P n0 st p o s) : OutN P n0 st p o s := h
theorem HS.cutn {P : Program} {n0 : Nat} {c : SCode} {s : St} {Q : Out → St → Prop} {α : Type} (st : α → St) (p : α → Prop) (h1 : HS P n0 c s (OutN P n0 st p)) (h2 : ∀ y, p y → ∀ s', View P n0 s' (st y) → Q .normal s') : HS P n0 c s Q :=
  h1.mono fun o s' ⟨ho, y, hs, hp⟩ => by rw [ho]; exact h2 y hp s' hs
/-- A loop's end, told: the code behind it is walked apart. -/
def OutS (n0 : Nat) (keep : List Nat) (i : Nat) {α : Type} (st : α → St) (p : α → Prop) (o : Out) (s : St) : Prop := o = .exit i ∧ ∃ y, sweepW n0 keep s = some (st y) ∧ p y
theorem OutS.mk {n0 : Nat} {keep : List Nat} {i : Nat} {α : Type} {st : α → St} {p : α → Prop} {s : St} (y : α) (h : sweepW n0 keep s = some (st y)) (hp : p y) : OutS n0 keep i st p (.exit i) s := ⟨rfl, y, h, hp⟩
theorem isOut {n0 : Nat} {keep : List Nat} {i : Nat} {α : Type} {st : α → St} {p : α → Prop} {o : Out} {s : St} (h : OutS n0 keep i st p o s) : OutS n0 keep i st p o s := h
theorem HS.cut {P : Program} {n0 : Nat} {c : SCode} {s : St} {Q : Out → St → Prop} (keep : List Nat) (i : Nat) {α : Type} (st : α → St) (p : α → Prop) (h1 : HS P n0 c s (OutS n0 keep i st p)) (h2 : ∀ y, p y → ∀ s', View P n0 s' (st y) → Q (.exit i) s') : HS P n0 c s Q :=
  h1.mono fun o s' ⟨ho, y, hs, hp⟩ => by rw [ho]; exact h2 y hp s' (View.sweep hs)
/- A drawn region, one operation at a time (mac.py: GOD). -/
theorem wpDr_aK {P : Program} {b : List Nat} {n0 i t n : Nat} {o : SOp} {l : List SI} {own : List Nat} {log : List (List Nat × List Nat)} {e : List (Nat × D)} {H : List Row} {dr : List Nat} {K : St → Prop}
    (h : ∀ N : List Nat → List (List Nat × List Nat) → D → List Row → Prop, (∀ own1 log1 d H1, wpDr P b n0 l (i + 1) own1 log1 ⟨frm n ((t, d) :: e), H1, []⟩ K → N own1 log1 d H1) → drStep P b own n0 i log o (viewS (frm n e) H o) (frm n e) H N) : wpDr P b n0 (.a t o :: l) i own log ⟨frm n e, H, dr⟩ K := by
  rw [wpDr_a]; exact h _ fun _ _ _ _ h => by rw [frm_set]; exact h
theorem wpDr_nK {P : Program} {b : List Nat} {n0 i n : Nat} {o : SOp} {l : List SI} {own : List Nat} {log : List (List Nat × List Nat)} {e : List (Nat × D)} {H : List Row} {dr : List Nat} {K : St → Prop}
    (h : ∀ N : List Nat → List (List Nat × List Nat) → D → List Row → Prop, (∀ own1 log1 d H1, wpDr P b n0 l (i + 1) own1 log1 ⟨frm n e, H1, []⟩ K → N own1 log1 d H1) → drStep P b own n0 i log o (viewS (frm n e) H o) (frm n e) H N) : wpDr P b n0 (.n o :: l) i own log ⟨frm n e, H, dr⟩ K := by
  rw [wpDr_n]; exact h _ fun _ _ _ _ h => h
theorem wpDr_gK {P : Program} {b : List Nat} {n0 i t n u : Nat} {w : Bool} {o : SOp} {l : List SI} {own : List Nat} {log : List (List Nat × List Nat)} {e : List (Nat × D)} {H : List Row} {dr : List Nat} {K : St → Prop}
    (h : ∀ (N : List Nat → List (List Nat × List Nat) → D → List Row → Prop) (M : Prop), (∀ own1 log1 r H1, wpDr P b n0 l (i + 1) own1 log1 ⟨frm n ((u, r) :: e), H1, []⟩ K → N own1 log1 r H1) → (wpDr P b n0 l (i + 1) own (log ++ [([], [])]) ⟨frm n ((u, D.undef) :: e), H, []⟩ K → M) →
      wantV (frm n e)[t]? w (drStep P b own n0 i log o (viewS (frm n e) H o) (frm n e) H N) M) : wpDr P b n0 (.g (some u) o t w :: l) i own log ⟨frm n e, H, dr⟩ K := by
  rw [wpDr_g]; exact h _ _ (fun _ _ _ _ h => by rw [show putD! (frm n e) (some u) _ = (frm n e).set u _ from rfl, frm_set]; exact h) fun h => by rw [show putD! (frm n e) (some u) _ = (frm n e).set u _ from rfl, frm_set]; exact h
end Go.Proofs.Ytjhemkeilagnnaa.Mir
