/- Steps of the machine: maps. -/
import Derived.Test.YtjhemkeilagnnaaMirBuild
import Derived.Laws.StructEq
namespace Go.Proofs.Ytjhemkeilagnnaa.Mir
open Go Go.RowKit

section
variable {P : Program} {w : World} {φ : Nat → Nat × Nat} {X : Nat → Prop} {H : List Row}

theorem bytes_same (a b : ByteArray) : (a == b) = true ↔ a = b := by
  rw [beq_toListBytes]
  simp only [beq_iff_eq]
  constructor
  · intro h
    rw [ByteArray.toList_eq, ByteArray.toList_eq] at h
    obtain ⟨⟨a⟩⟩ := a
    obtain ⟨⟨b⟩⟩ := b
    simp at h
    rw [h]
  · rintro rfl; rfl

def EsR (P : Program) (w : World) (φ : Nat → Nat × Nat) (A : Nat → Prop) (N : Nat) (ds : List (Value × D)) (es : List MapEntry) : Prop :=
  es.length = ds.length ∧ ∀ (i : Nat) (k : Value) (d : D) (m : MapEntry), ds[i]? = some (k, d) → es[i]? = some m → m.key = k ∧ R P w φ A N d m.val ∧ Free d

theorem keyOk_cases {K : TypeId} {key : Value} (h : keyOk P K key = true) : (∃ a n, P.underlying K = some (.int a) ∧ key = .int a n) ∨ (∃ s, P.underlying K = some .string ∧ key = .string s) ∨ (∃ b, P.underlying K = some .bool ∧ key = .bool b) := by
  unfold keyOk at h
  split at h
  · rename_i a b n hu
    simp at h
    exact .inl ⟨a, n, hu, by rw [h]⟩
  · rename_i s hu; exact .inr (.inl ⟨s, hu, rfl⟩)
  · rename_i b hu; exact .inr (.inr ⟨b, hu, rfl⟩)
  · cases h

theorem run_checkKey1 {K : TypeId} {key : Value} (h : keyOk P K key = true) (e : Bool) (n : Nat) : (Instr.checkKey e (n + 1) K key).run P w = .ok () w := by
  rcases keyOk_cases h with ⟨a, n, hu, rfl⟩ | ⟨s, hu, rfl⟩ | ⟨b, hu, rfl⟩ <;> simp [Instr.checkKey, run_underlying hu]
theorem run_checkKey {K : TypeId} {key : Value} (h : keyOk P K key = true) (e : Bool) : (Instr.checkKey e 10000 K key).run P w = .ok () w := run_checkKey1 h e 9999

theorem sameNow_eq {K : TypeId} {key : Value} (h : keyOk P K key = true) : ∃ kind, P.underlying K = some kind ∧ ∀ x, Instr.sameNow kind key x = keyEq key x := by
  rcases keyOk_cases h with ⟨a, n, hu, rfl⟩ | ⟨s, hu, rfl⟩ | ⟨b, hu, rfl⟩
  · exact ⟨_, hu, fun x => by cases x <;> simp [Instr.sameNow, keyEq]⟩
  · exact ⟨_, hu, fun x => by cases x <;> simp [Instr.sameNow, keyEq]⟩
  · exact ⟨_, hu, fun x => by cases x <;> simp [Instr.sameNow, keyEq]⟩

theorem keyEq_true {a b : Value} (h : keyEq a b = some true) : b = a := by
  cases a <;> cases b <;> simp only [keyEq, reduceCtorEq] at h
  · injection h with h; rw [eq_of_beq h]
  · split at h
    · rename_i hk
      injection h with h
      rw [hk, eq_of_beq h]
    · cases h
  · injection h with h
    rw [(bytes_same _ _).1 h]

theorem keyEq_self {a : Value} {t : Bool} (h : keyEq a a = some t) : t = true := by
  cases a with
  | string s => simp only [keyEq, Option.some.injEq] at h; rw [← h]; exact (bytes_same s s).2 rfl
  | _ => simp [keyEq] at h <;> first | exact h.symm | exact h
theorem find_ok {A : Nat → Prop} {N : Nat} {kind : TypeDesc} {key : Value} (hk : ∀ x, Instr.sameNow kind key x = keyEq key x) : ∀ (ds : List (Value × D)) (es : List MapEntry) (j : Nat) (o : Option D), EsR P w φ A N ds es → findD key ds = some o →
    (o = none ∧ Instr.findNow kind key es j = some none ∧ (∀ d, putD key d ds = ds ++ [(key, d)] ∧ dropD key ds = ds) ∧ ∀ m ∈ es, m.key ≠ key) ∨
    (∃ i d m, o = some d ∧ ds[i]? = some (key, d) ∧ es[i]? = some m ∧ m.key = key ∧ R P w φ A N d m.val ∧ Instr.findNow kind key es j = some (some (j + i, m.val)) ∧ (∀ d', putD key d' ds = ds.set i (key, d')) ∧ dropD key ds = ds.eraseIdx i)
  | [], es, j, o, h, hf => by
    have : es = [] := List.eq_nil_of_length_eq_zero h.1
    subst this
    simp [findD] at hf
    exact .inl ⟨hf.symm, rfl, fun d => ⟨rfl, rfl⟩, fun m hm => by cases hm⟩
  | (x, d) :: ds, es, j, o, h, hf => by
    cases es with
    | nil => have := h.1; simp at this
    | cons m es =>
      obtain ⟨h1, h2, _⟩ := h.2 0 x d m (by simp) (by simp)
      have hr : EsR P w φ A N ds es := ⟨by have := h.1; simpa using this, fun i k d' m' hd hm => h.2 (i + 1) k d' m' (by simpa using hd) (by simpa using hm)⟩
      simp only [findD] at hf
      have hs : Instr.sameNow kind key m.key = keyEq key x := by rw [hk, h1]
      split at hf
      · rename_i ht
        injection hf with hf
        have hx := keyEq_true ht
        subst hx
        refine .inr ⟨0, d, m, hf.symm, by simp, by simp, h1, h2, ?_, ?_, ?_⟩
        · unfold Instr.findNow
          rw [hs, ht]; simp
        · intro d'; simp [putD, ht]
        · simp [dropD, ht]
      · rename_i ht
        rcases find_ok hk ds es (j + 1) o hr hf with ⟨g1, g2, g3, g9⟩ | ⟨i, d', m', g1, g2, g3, g4, g5, g6, g7, g8⟩
        · refine .inl ⟨g1, ?_, fun d' => ⟨?_, ?_⟩, fun m1 hm1 => ?_⟩
          rotate_right
          · rcases List.mem_cons.1 hm1 with rfl | hm1
            · rw [h1]; rintro rfl; exact absurd (keyEq_self ht) (by decide)
            · exact g9 m1 hm1
          · unfold Instr.findNow
            rw [hs, ht]; exact g2
          · simp [putD, ht, (g3 d').1]
          · simp [dropD, ht, (g3 d').2]
        · refine .inr ⟨i + 1, d', m', g1, by simpa using g2, by simpa using g3, g4, g5, ?_, ?_, ?_⟩
          · unfold Instr.findNow
            rw [hs, ht]
            simp only [g6]
            rw [show j + 1 + i = j + (i + 1) by omega]
          · intro d''; simp [putD, ht, g7]
          · simp [dropD, ht, g8]
      · cases hf

theorem mapEs_ok (h : HR P w φ X H) {m : D} {u : Value} {es : List (Value × D)} (hm : R P w φ (Av X φ H) H.length m u) (he : mapEs H m = some es) :
    (u = .map none ∧ es = []) ∨ ∃ r en clock, u = .map (some (φ r).1) ∧ H[r]? = some (.map es) ∧ m = .mp r ∧ w.heap[(φ r).1]? = some (.map en clock) ∧ EsR P w φ (Av X φ H) H.length es en.toList := by
  cases hm with
  | f hx =>
    cases hx with
    | v hx =>
      unfold mapEs at he
      split at he
      · rename_i e
        injection e with e
        injection e with e
        injection he with he
        exact .inl ⟨e, he.symm⟩
      · rename_i e; cases e
      · cases he
    | _ => simp [mapEs] at he
  | mp hr =>
    rename_i r
    simp only [mapEs] at he
    split at he
    · rename_i es' hrow
      injection he with he
      subst he
      obtain ⟨en, clock, h1, _, h2, h3⟩ := h.rows r _ hrow
      exact .inr ⟨r, en, clock, rfl, hrow, rfl, h1, by simpa using h2, fun i k d m hd hm => h3 i k d m hd (by simpa using hm)⟩
    · cases he
  | _ => simp [mapEs] at he

theorem zeroD_ok {A : Nat → Prop} {N : Nat} {T : TypeId} {d : D} (h : zeroD P T = some d) : ∃ v, (zeroValue T).run P w = .ok v w ∧ R P w φ A N d v := by
  unfold zeroD at h
  split at h
  · rename_i i hi
    rw [Option.map_eq_some_iff] at h
    obtain ⟨z, hz, rfl⟩ := h
    exact ⟨z, by simp [zeroValue, typeInfo, hi, hz], R.of z⟩
  · cases h

theorem run_getMap {b : Nat} {en : Array MapEntry} {clock : Nat} (h : w.heap[b]? = some (.map en clock)) : (getObj b).run P w = .ok (.map en clock) w := by
  simp [getObj, Sem.run, h]

theorem lookup_ok (h : HR P w φ X H) {T : TypeId} {m k d : D} {um uk : Value} {ok : Bool} (hm : R P w φ (Av X φ H) H.length m um) (hk : R P w φ (Av X φ H) H.length k uk) (he : lookupD P H T m k ok = some d) :
    ∃ v, (Instr.lookup T um uk ok).run P w = .ok v w ∧ R P w φ (Av X φ H) H.length d v := by
  unfold lookupD at he
  split at he
  · rename_i K E es key hu hes
    have huk : uk = key := by cases hk with | f hk => cases hk with | v hk => rfl
    subst huk
    split at he
    · rename_i hko
      obtain ⟨kind, hkind, hsame⟩ := sameNow_eq hko
      -- what the map holds
      have hget : ∃ en : Array MapEntry, EsR P w φ (Av X φ H) H.length es en.toList ∧ ∀ (r : Option (Nat × Value)), Instr.findNow kind uk en.toList 0 = some r → ∀ v b, (match r with | some (_, v) => (.ok (v, true) w : Result (Value × Bool)) | none => ((do pure (← zeroValue E, false) : Sem (Value × Bool))).run P w) = .ok (v, b) w → (Instr.lookup T um uk ok).run P w = .ok (if ok then .tuple #[v, .bool b] else v) w := by
        rcases mapEs_ok h hm hes with ⟨rfl, rfl⟩ | ⟨r, en, clock, rfl, _, _, h1, h2⟩
        · refine ⟨#[], ⟨rfl, fun i k d m hd => by simp at hd⟩, fun r hr v b hv => ?_⟩
          simp [Instr.findNow] at hr
          subst hr
          simp only [Instr.lookup, Sem.run_bind, run_underlying hu, Result.andThen_ok, Sem.run_pure, run_checkKey hko, Instr.findKey, run_underlying hkind, Instr.findNow]
          simp only at hv
          simp only [Sem.run_bind] at hv ⊢
          cases hz : (zeroValue E).run P w with
          | ok z w1 =>
            rw [hz] at hv
            simp at hv
            obtain ⟨⟨rfl, rfl⟩, rfl⟩ := hv
            cases ok <;> simp
          | halt x w1 => rw [hz] at hv; simp at hv
        · refine ⟨en, h2, fun r' hr v b hv => ?_⟩
          simp only [Instr.lookup, Sem.run_bind, run_underlying hu, Result.andThen_ok, run_getMap h1, Sem.run_pure, run_checkKey hko, Instr.findKey, run_underlying hkind, hr]
          cases r' with
          | some p =>
            obtain ⟨i, v'⟩ := p
            simp at hv
            obtain ⟨rfl, rfl⟩ := hv
            cases ok <;> simp
          | none =>
            simp only [Sem.run_bind] at hv ⊢
            cases hz : (zeroValue E).run P w with
            | ok z w1 =>
              rw [hz] at hv
              simp at hv
              obtain ⟨⟨rfl, rfl⟩, rfl⟩ := hv
              cases ok <;> simp
            | halt x w1 => rw [hz] at hv; simp at hv
      obtain ⟨en, h1, h2⟩ := hget
      have one_b : ∀ b, R P w φ (Av X φ H) H.length (.v (.bool b)) (.bool b) := fun b => one_v rfl
      have tup : ∀ (d : D) (v : Value) (b : Bool), R P w φ (Av X φ H) H.length d v → R P w φ (Av X φ H) H.length (if ok then .tp [d, .bool b] else d) (if ok then .tuple #[v, .bool b] else v) := by
        intro d v b hd
        cases ok
        · exact hd
        · refine .tp rfl (fun i d' u hd' hu => ?_)
          have hs : Rs P w φ (Av X φ H) H.length [d, .bool b] [v, .bool b] := Rs.cons hd (Rs.cons (one_b b) Rs.nil)
          exact hs.2 i d' u hd' (by simpa using hu)
      split at he
      · rename_i d' hf
        injection he with he
        subst he
        rcases find_ok hsame es en.toList 0 _ h1 hf with ⟨g1, _⟩ | ⟨i, d2, m', g1, _, _, _, g5, g6, _⟩
        · cases g1
        · injection g1 with g1
          subst g1
          exact ⟨_, h2 _ g6 m'.val true rfl, tup _ _ _ g5⟩
      · rename_i z hf hz
        injection he with he
        subst he
        obtain ⟨vz, hvz, hrz⟩ := zeroD_ok (P := P) (w := w) (φ := φ) (A := Av X φ H) (N := H.length) hz
        rcases find_ok hsame es en.toList 0 _ h1 hf with ⟨_, g2, _⟩ | ⟨i, d2, m', g1, _⟩
        · exact ⟨_, h2 _ g2 vz false (by simp [hvz]), tup _ _ _ hrz⟩
        · cases g1
      · cases he
    · cases he
  · cases he

theorem freezeV_ok (h : HR P w φ X H) {d y : D} {u : Value} {us : List (Nat × Row)} (hd : R P w φ (Av X φ H) H.length d u) (he : freezeV P H d = some (y, us)) :
    Froze P w φ X H (applyUpd H us) ∧ R P w φ (Av X φ (applyUpd H us)) H.length y u ∧ Free y := by
  have other : freeze1 P H d = some ((match y with | .f x => x | _ => .e), us) → (∃ x, y = .f x) → Froze P w φ X H (applyUpd H us) ∧ R P w φ (Av X φ (applyUpd H us)) H.length y u ∧ Free y := by
    rintro h1 ⟨x, rfl⟩
    obtain ⟨f, hx⟩ := freeze1_ok h hd h1
    exact ⟨f, .f hx, .f⟩
  cases d with
  | ag ds =>
    simp only [freezeV] at he
    split at he
    · rename_i xs us' hf
      injection he with he
      injection he with e1 e2
      subst e1; subst e2
      cases hd with
      | ag hs hr h1 =>
        rename_i vs
        obtain ⟨f, hx⟩ := freezeAll_ok h (vs := vs.toList) ⟨by simpa using hs, fun i x y hx hy => hr i x y hx (by simpa using hy)⟩ hf
        have hfree : Free (.ag (xs.map .f)) := .ag (fun i d hd => by
          rw [List.getElem?_map] at hd
          cases hxi : xs[i]? with
          | none => rw [hxi] at hd; simp at hd
          | some x => rw [hxi] at hd; simp at hd; subst hd; exact .f)
        refine ⟨f, .ag (by have := hx.1; simpa using this) (fun i d u hd hu => ?_) h1, hfree⟩
        rw [List.getElem?_map] at hd
        cases hxi : xs[i]? with
        | none => rw [hxi] at hd; simp at hd
        | some x =>
          rw [hxi] at hd
          simp at hd
          subst hd
          exact .f (hx.2 i x u hxi (by simpa using hu))
    · cases he
  | tp ds => simp [freezeV] at he
  | _ =>
    simp only [freezeV] at he
    split at he
    · rename_i x us' hf
      injection he with he
      injection he with e1 e2
      subst e1; subst e2
      exact other hf ⟨_, rfl⟩
    · cases he

theorem keep_setMap {b : Nat} {en en' : Array MapEntry} {c c' : Nat} (h : w.heap[b]? = some (.map en c)) : Keep (fun x => x = b) w { w with heap := w.heap.setIfInBounds b (.map en' c') } := by
  refine ⟨by simp, fun x _ hx => ?_, fun x cs T fr hx => ?_, rfl, rfl, rfl⟩
  · simp only [Array.getElem?_setIfInBounds]
    rw [if_neg (fun e => hx e.symm)]
  · by_cases e : b = x
    · subst e; rw [h] at hx; cases hx
    · refine ⟨cs, fr, ?_, rfl⟩
      simp only [Array.getElem?_setIfInBounds]
      rw [if_neg e]; exact hx

theorem heap_setMap {b : Nat} {en en' : Array MapEntry} {c c' : Nat} (h : w.heap[b]? = some (.map en c)) : ({ w with heap := w.heap.setIfInBounds b (.map en' c') } : World).heap[b]? = some (.map en' c') := by
  have hlt := block_lt h
  simp [hlt]

theorem run_setMap {b : Nat} {en en' : Array MapEntry} {c c' : Nat} (h : w.heap[b]? = some (.map en c)) : (setObj b (.map en' c')).run P w = .ok () { w with heap := w.heap.setIfInBounds b (.map en' c') } := by
  simp [setObj, Sem.run, h]

theorem map_turn {H' : List Row} (f : Froze P w φ X H H') {r : Nat} {es es' : List (Value × D)} {en en' : Array MapEntry} {c c' : Nat} (hr : H'[r]? = some (.map es)) (hb : w.heap[(φ r).1]? = some (.map en c)) (hst : MapKept.Stamped en' c') (hes : EsR P w φ (Av X φ H') H'.length es' en'.toList) {e : Eff} {v : Value} (heq : e.heap H = H'.set r (.map es')) (hres : ∀ (w' : World) A, R P w' φ A H.length e.res v) :
    Leaves P w φ X H e v { w with heap := w.heap.setIfInBounds (φ r).1 (.map en' c') } := by
  have hk := keep_setMap (en' := en') (c' := c') hb
  refine leaves_turn (row' := .map es') f hr rfl hk (fun hav => ?_) heq (hres _)
  have hlv : ∀ b, b = (φ r).1 → Av X φ H' b := fun b e => by subst e; exact .inr (live_of hr rfl)
  refine ⟨en', c', heap_setMap hb, hst, by simpa using hes.1, fun i k d m hd hm => ?_⟩
  obtain ⟨h1, h2, h3⟩ := hes.2 i k d m hd (by simpa using hm)
  exact ⟨h1, h2.keep hk hlv hav (fun _ _ => rfl) (Nat.le_refl _), h3⟩

theorem mapPut_ok (h : HR P w φ X H) {T : TypeId} {m k x : D} {um uk ux : Value} {e : Eff} (hm : R P w φ (Av X φ H) H.length m um) (hk : R P w φ (Av X φ H) H.length k uk) (hx : R P w φ (Av X φ H) H.length x ux) (he : mapPutD P H T m k x = some e) :
    ∃ w', (Instr.mapUpdate T um uk ux).run P w = .ok () w' ∧ Leaves P w φ X H e Go.undef w' := by
  unfold mapPutD at he
  split at he
  · rename_i K E r key hu
    have huk : uk = key := by cases hk with | f hk => cases hk with | v hk => rfl
    subst huk
    cases hm with | mp hr =>
    split at he
    · rename_i hko
      obtain ⟨kind, hkind, hsame⟩ := sameNow_eq hko
      split at he
      · rename_i y us hfr
        obtain ⟨f, hy, hfy⟩ := freezeV_ok h hx hfr
        split at he
        · rename_i es hrow
          split at he
          · rename_i o hfind
            injection he with he
            subst he
            obtain ⟨en, clock, h1, h0, h2, h3⟩ := f.ok.rows r _ hrow
            have hes : EsR P w φ (Av X φ (applyUpd H us)) (applyUpd H us).length es en.toList := ⟨by simpa using h2, fun i k d m hd hm => h3 i k d m hd (by simpa using hm)⟩
            have hyN : R P w φ (Av X φ (applyUpd H us)) (applyUpd H us).length y ux := by rw [f.len]; exact hy
            rcases find_ok hsame es en.toList 0 _ hes hfind with ⟨_, g2, g3, g9⟩ | ⟨i, d2, m', _, g2, g3, g4, g5, g6, g7, _⟩
            · have hrun : (Instr.mapUpdate T (.map (some (φ r).1)) uk ux).run P w = .ok () { w with heap := w.heap.setIfInBounds (φ r).1 (.map (en.push { key := uk, val := ux, born := clock }) (clock + 1)) } := by
                simp only [Instr.mapUpdate, Sem.run_bind, run_underlying hu, Result.andThen_ok, run_getMap h1, run_checkKey hko, Instr.findKey, run_underlying hkind, g2, Sem.run_pure]
                exact run_setMap h1
              refine ⟨_, hrun, ?_⟩
              refine map_turn (es' := putD uk y es) f hrow h1 (MapKept.stamped_push h0 g9) ?_ (by simp [Eff.heap, applyUpd_append, applyUpd]) (fun _ _ => R.undef)
              rw [(g3 y).1]
              refine ⟨by simp [hes.1], fun i k d m hd hm => ?_⟩
              rw [Array.toList_push] at hm
              by_cases hi : i < es.length
              · rw [List.getElem?_append_left hi] at hd
                rw [List.getElem?_append_left (by rw [hes.1]; exact hi)] at hm
                exact hes.2 i k d m hd hm
              · rw [List.getElem?_append_right (by omega)] at hd
                rw [List.getElem?_append_right (by rw [hes.1]; omega), hes.1] at hm
                have hi0 : i - es.length = 0 := by
                  have := (List.getElem?_eq_some_iff.1 hd).1
                  simp at this; omega
                rw [hi0] at hd hm
                simp at hd hm
                obtain ⟨rfl, rfl⟩ := hd
                subst hm
                exact ⟨rfl, hyN, hfy⟩
            · have hi : i < en.size := by
                have := (List.getElem?_eq_some_iff.1 g3).1
                simpa using this
              have hge : en[i]? = some m' := by simpa using g3
              have hstay : (Instr.keyThatStays m'.key uk).run P w = .ok uk w := by
                rw [g4]
                unfold Instr.keyThatStays
                rcases keyOk_cases hko with ⟨a, n, _, rfl⟩ | ⟨s, _, rfl⟩ | ⟨b, _, rfl⟩ <;> simp [Instr.sameBits, (bytes_same _ _).2]
              have hrun : (Instr.mapUpdate T (.map (some (φ r).1)) uk ux).run P w = .ok () { w with heap := w.heap.setIfInBounds (φ r).1 (.map (en.modify i fun e => { e with key := uk, val := ux }) clock) } := by
                simp only [Nat.zero_add] at g6
                simp only [Instr.mapUpdate, Sem.run_bind, run_underlying hu, Result.andThen_ok, run_getMap h1, run_checkKey hko, Instr.findKey, run_underlying hkind, g6, Sem.run_pure, hge, Option.map_some, Option.getD_some, hstay]
                exact run_setMap h1
              refine ⟨_, hrun, ?_⟩
              have hst2 : MapKept.Stamped (en.modify i fun e => { e with key := uk, val := ux }) clock := MapKept.stamped_modify h0 i _ (fun _ _ => rfl) (fun q _ hq => by
                have e : m' = q := by rw [hge] at hq; injection hq
                subst e
                exact g4.symm)
              refine map_turn (es' := putD uk y es) f hrow h1 hst2 ?_ (by simp [Eff.heap, applyUpd_append, applyUpd]) (fun _ _ => R.undef)
              rw [g7 y]
              refine ⟨by simp [hes.1], fun j k d m hd hm => ?_⟩
              have hm' : (en.modify i fun e => { e with key := uk, val := ux })[j]? = some m := by rw [← Array.getElem?_toList]; exact hm
              rw [Array.getElem?_modify] at hm'
              by_cases hij : i = j
              · subst hij
                rw [if_pos rfl, hge] at hm'
                simp at hm'
                rw [List.getElem?_set_self (List.getElem?_eq_some_iff.1 g2).1] at hd
                simp at hd
                obtain ⟨rfl, rfl⟩ := hd
                subst hm'
                exact ⟨rfl, hyN, hfy⟩
              · rw [if_neg hij] at hm'
                rw [List.getElem?_set_ne hij] at hd
                exact hes.2 j k d m hd (by simpa using hm')
          · cases he
        · cases he
      · cases he
    · cases he
  · cases he

theorem mapDel_ok (h : HR P w φ X H) {t u ty : TypeId} {m k : D} {um uk : Value} {e : Eff} (hm : R P w φ (Av X φ H) H.length m um) (hk : R P w φ (Av X φ H) H.length k uk) (he : mapDelD P H t m k = some e) :
    ∃ v w', (Builtin.delete_ #[t, u] ty #[um, uk]).run P w = .ok v w' ∧ Leaves P w φ X H e v w' := by
  unfold mapDelD at he
  split at he
  · rename_i K E r key hu
    have huk : uk = key := by cases hk with | f hk => cases hk with | v hk => rfl
    subst huk
    cases hm with | mp hr =>
    split at he
    · rename_i hko
      obtain ⟨kind, hkind, hsame⟩ := sameNow_eq hko
      split at he
      · rename_i es hrow
        split at he
        · rename_i o hfind
          injection he with he
          subst he
          obtain ⟨en, clock, h1, h0, h2, h3⟩ := h.rows r _ hrow
          have hes : EsR P w φ (Av X φ H) H.length es en.toList := ⟨by simpa using h2, fun i k d m hd hm => h3 i k d m hd (by simpa using hm)⟩
          have htp : ∀ (w' : World) A, R P w' φ A H.length (.tp []) (.tuple #[]) := fun w' A => .tp rfl (fun i d u hd => by simp at hd)
          rcases find_ok hsame es en.toList 0 _ hes hfind with ⟨_, g2, g3, g9⟩ | ⟨i, d2, m', _, g2, g3, g4, g5, g6, _, g8⟩
          · have hrun : (Builtin.delete_ #[t, u] ty #[.map (some (φ r).1), uk]).run P w = .ok (.tuple #[]) { w with heap := w.heap.setIfInBounds (φ r).1 (.map en clock) } := by
              simp [Builtin.delete_, run_underlying hu, run_getMap h1, run_checkKey hko, Instr.findKey, run_underlying hkind, g2, run_setMap h1]
            refine ⟨_, _, hrun, ?_⟩
            refine map_turn (es' := dropD uk es) (Froze.refl h) hrow h1 h0 ?_ (by simp [Eff.heap, applyUpd]) htp
            rw [(g3 .junk).2]
            exact hes
          · have hrun : (Builtin.delete_ #[t, u] ty #[.map (some (φ r).1), uk]).run P w = .ok (.tuple #[]) { w with heap := w.heap.setIfInBounds (φ r).1 (.map (en.eraseIdxIfInBounds i) clock) } := by
              simp only [Nat.zero_add] at g6
              simp [Builtin.delete_, run_underlying hu, run_getMap h1, run_checkKey hko, Instr.findKey, run_underlying hkind, g6, run_setMap h1]
            refine ⟨_, _, hrun, ?_⟩
            refine map_turn (es' := dropD uk es) (Froze.refl h) hrow h1 (MapKept.stamped_erase h0 i) ?_ (by simp [Eff.heap, applyUpd]) htp
            rw [g8]
            have hi : i < en.size := by
              have := (List.getElem?_eq_some_iff.1 g3).1
              simpa using this
            have e1 : (en.eraseIdxIfInBounds i).toList = en.toList.eraseIdx i := by
              simp [Array.eraseIdxIfInBounds, hi]
            rw [e1]
            have hi2 : i < es.length := by rw [← hes.1]; simpa using hi
            refine ⟨by rw [List.length_eraseIdx, List.length_eraseIdx, hes.1], fun j k d m hd hm => ?_⟩
            rw [List.getElem?_eraseIdx] at hd hm
            split at hd
            · rename_i hj
              rw [if_pos hj] at hm
              exact hes.2 j k d m hd hm
            · rename_i hj
              rw [if_neg hj] at hm
              exact hes.2 (j + 1) k d m hd hm
        · cases he
      · cases he
    · cases he
  · cases he

theorem clear_ok (h : HR P w φ X H) {t ty : TypeId} {x : D} {ux : Value} {e : Eff} (hx : R P w φ (Av X φ H) H.length x ux) (he : clearD P H t x = some e) :
    ∃ v w', (Builtin.clear_ #[t] ty #[ux]).run P w = .ok v w' ∧ Leaves P w φ X H e v w' := by
  have htp : ∀ (w' : World) A, R P w' φ A H.length (.tp []) (.tuple #[]) := fun w' A => .tp rfl (fun i d u hd => by simp at hd)
  unfold clearD at he
  split at he
  · rename_i u hu
    injection he with he
    subst he
    cases hx with | f hx => cases hx with | v _ =>
    exact ⟨.tuple #[], w, by simp [Builtin.clear_, run_underlying hu], Leaves.quiet h (htp _ _)⟩
  · rename_i E r off n hu
    split at he
    · rename_i hn0
      injection he with he
      subst he
      subst hn0
      cases hx with
      | sl => exact ⟨.tuple #[], w, by simp [Builtin.clear_, run_underlying hu], Leaves.quiet h (htp _ _)⟩
      | sl0 => exact ⟨.tuple #[], w, by simp [Builtin.clear_, run_underlying hu], Leaves.quiet h (htp _ _)⟩
    · rename_i hn0
      split at he
      · rename_i U xs sz b z hrow hinf
        split at he
        · rename_i hc
          obtain ⟨hc1, hc2⟩ := hc
          injection he with he
          subst he
          cases hx with
          | sl0 _ => exact absurd rfl hn0
          | sl hr hn hb hi hcap =>
            rename_i cap cs T fr i0
            obtain ⟨pre, vs, post, h1, h2, h3⟩ := h.rows r _ hrow
            obtain ⟨i, zz, hi1, hi2, hi3, hi4, hi5⟩ := inf_info hinf
            obtain ⟨hz0, hz1⟩ := inf_zero hinf
            rw [← hi5] at hz0 hz1
            subst hi5
            obtain ⟨z1, z2⟩ := zero_cells (P := P) (w := w) (φ := φ) (A := Av X φ H) (N := H.length) (n := n * sz) hz0 hz1 hc2
            have hzs : zz.cells.size = sz := by simpa using hz0
            have hzc : (Builtin.zeroCells zz.cells n).toList = ((Array.range (n * sz)).map (zz.cells[· % zz.cells.size]!)).toList := by
              unfold Builtin.zeroCells; rw [hzs]
            rw [← hzc] at z1 z2
            have hl5 : (Builtin.zeroCells zz.cells n).toList.length = n * sz := by rw [hzc]; simp
            have hvl := h3.1
            have hst := run_storeCells_at P (φ r).1 ((φ r).2 + off) U (Builtin.zeroCells zz.cells n).toList 0 _ w h1 (by rw [hl5, ← h2]; simp; omega) z2
            have hrun : (Builtin.clear_ #[t] ty #[.slice (some ⟨(φ r).1, (φ r).2 + off, none⟩) n cap]).run P w = .ok (.tuple #[]) (w.setRow (φ r).1 ((pre ++ vs ++ post).take ((φ r).2 + off) ++ (Builtin.zeroCells zz.cells n).toList ++ (pre ++ vs ++ post).drop ((φ r).2 + off + (Builtin.zeroCells zz.cells n).toList.length)).toArray) := by
              obtain ⟨n', rfl⟩ : ∃ n', n = n' + 1 := ⟨n - 1, by omega⟩
              have hzv : (zeroValue E).run P w = .ok zz w := by simp [zeroValue, typeInfo, hi1, hi2]
              simp only [Nat.add_zero] at hst
              simp only [List.append_assoc] at hst ⊢
              simp [Builtin.clear_, run_underlying hu, hzv, hst]
            have hnew : (pre ++ vs ++ post).take ((φ r).2 + off) ++ (Builtin.zeroCells zz.cells n).toList ++ (pre ++ vs ++ post).drop ((φ r).2 + off + (Builtin.zeroCells zz.cells n).toList.length) = pre ++ (vs.take off ++ (Builtin.zeroCells zz.cells n).toList ++ vs.drop (off + (Builtin.zeroCells zz.cells n).toList.length)) ++ post := by
              rw [← h2, hl5, List.append_assoc pre, List.take_length_add_append, List.take_append_of_le_length (by omega), Nat.add_assoc, List.drop_length_add_append, List.drop_append_of_le_length (by omega)]
              simp
            refine ⟨_, _, hrun, ?_⟩
            rw [hnew]
            have hk : Keep (fun b => b = (φ r).1) w (w.setRow (φ r).1 (pre ++ (vs.take off ++ (Builtin.zeroCells zz.cells n).toList ++ vs.drop (off + (Builtin.zeroCells zz.cells n).toList.length)) ++ post).toArray) := keep_setRow h1 (by simp [hl5]; omega)
            refine leaves_turn (row' := .data U (splice xs off ((List.range (n * sz)).map fun j => F.v (zz.cells.toList.getD (j % sz) Go.undef)))) (Froze.refl h) hrow rfl hk (fun hav => ?_) (by simp [Eff.heap, applyUpd]) (fun A => htp _ _)
            have hlv : ∀ b, b = (φ r).1 → Av X φ H b := fun b e => by subst e; exact .inr (live_of hrow rfl)
            have z3 : RFs w (Av X φ H) ((List.range (n * sz)).map fun j => F.v (zz.cells.toList.getD (j % sz) Go.undef)) (Builtin.zeroCells zz.cells n).toList := by
              refine fs_ok z1 ?_
              generalize List.range (n * sz) = l
              induction l with
              | nil => rfl
              | cons x l ih => simp only [List.map_cons, fs?]; rw [ih]; rfl
            refine ⟨pre, _, post, setRow_heap w _ _ _ _ _ h1, h2, ?_⟩
            have a1 := h3.keep hk hlv hav
            have a2 := z3.keep hk hlv hav
            have a3 := ((a1.take off).append a2).append (a1.drop (off + (Builtin.zeroCells zz.cells n).toList.length))
            have e0 : splice xs off ((List.range (n * sz)).map fun j => F.v (zz.cells.toList.getD (j % sz) Go.undef)) = xs.take off ++ ((List.range (n * sz)).map fun j => F.v (zz.cells.toList.getD (j % sz) Go.undef)) ++ xs.drop (off + (Builtin.zeroCells zz.cells n).toList.length) := by unfold Mir.splice; rw [← z3.1]
            rw [e0] at a3 ⊢
            exact a3
        · cases he
      · cases he
  · cases he
end

end Go.Proofs.Ytjhemkeilagnnaa.Mir
