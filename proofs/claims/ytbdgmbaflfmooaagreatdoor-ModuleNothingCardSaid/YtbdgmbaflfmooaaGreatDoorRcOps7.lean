/- append onto a row of the walk's own, onto nil, onto a full slice. Conditions: none. -/
import Derived.Test.YtbdgmbaflfmooaaGreatDoorRcOps6
set_option linter.unusedVariables false
set_option linter.unusedSimpArgs false
namespace Go.Rc

/-- What a value holds that is appended. -/
def SrcOk (H : Heap) (ag : Bool) (sz : Nat) (v : AV) (ys : List AV) : Prop :=
  (∃ full es, v = .d (.sl full ag sz es) ∧ ys = es.map .d) ∨ v = .sl ag sz ys ∨ (v = .d (.v (.slice none 0 0)) ∧ ys = []) ∨
  (∃ id te n, v = .row id n ∧ H[id]? = some (.row te ag sz ys) ∧ n = ys.length)

theorem SrcOk.d (H : Heap) (ag : Bool) (sz : Nat) (full : Bool) (es : List D) : SrcOk H ag sz (.d (.sl full ag sz es)) (es.map .d) := .inl ⟨full, es, rfl, rfl⟩
theorem SrcOk.lit (H : Heap) (ag : Bool) (sz : Nat) (es : List AV) : SrcOk H ag sz (.sl ag sz es) es := .inr (.inl rfl)
theorem SrcOk.nil (H : Heap) (ag : Bool) (sz : Nat) : SrcOk H ag sz (.d (.v (.slice none 0 0))) [] := .inr (.inr (.inl ⟨rfl, rfl⟩))
theorem SrcOk.row {H : Heap} {ag : Bool} {sz id : Nat} {te : TypeId} {n : Nat} {es : List AV} (h : H[id]? = some (.row te ag sz es)) (hn : n = es.length) : SrcOk H ag sz (.row id n) es := .inr (.inr (.inr ⟨id, te, n, rfl, h, hn⟩))

/-- What is appended, in memory. -/
def SrcIn (ρ : List Value) (S : Nat → Prop) (w : World) (ag : Bool) (sz : Nat) (ys : List AV) (x : Value) : Prop :=
  (x = .slice none 0 0 ∧ ys = []) ∨ ∃ a c news, x = .slice (some a) ys.length c ∧ news.length = ys.length * sz ∧ (∀ (j : Nat) (u : Value), news[j]? = some u → w.cell? (a.add j) = some u) ∧
    (∀ u, u ∈ news → u.oneCell' = true) ∧ RowCells ρ S w ag sz ys news

theorem range_cells {n sz : Nat} (hsz : 0 < sz) {cell : Nat → Value} {b o : Nat} {w : World} (h : ∀ i, i < n → ∀ j, j < sz → w.cell? ⟨b, o + (i * sz + j), none⟩ = some (cell (i * sz + j)) ∧ (cell (i * sz + j)).oneCell' = true) :
    (∀ (j : Nat) (u : Value), ((List.range (n * sz)).map cell)[j]? = some u → w.cell? ((⟨b, o, none⟩ : Addr).add j) = some u) ∧ (∀ u, u ∈ (List.range (n * sz)).map cell → u.oneCell' = true) := by
  have key : ∀ j, j < n * sz → w.cell? ⟨b, o + j, none⟩ = some (cell j) ∧ (cell j).oneCell' = true := by
    intro j hj
    have h1 : j / sz < n := Nat.div_lt_of_lt_mul (by rw [Nat.mul_comm]; exact hj)
    have h2 := h (j / sz) h1 (j % sz) (Nat.mod_lt _ hsz)
    rw [show j / sz * sz + j % sz = j by rw [Nat.mul_comm]; exact Nat.div_add_mod j sz] at h2
    exact h2
  constructor
  · intro j u hj
    simp only [List.getElem?_map, Option.map_eq_some_iff] at hj
    obtain ⟨k, hk, rfl⟩ := hj
    have hk' := List.getElem?_eq_some_iff.1 hk
    have e : j = k := by simpa using hk'.2
    subst e
    rw [addr_add]
    exact (key j (by simpa using hk'.1)).1
  · intro u hu
    simp only [List.mem_map, List.mem_range] at hu
    obtain ⟨k, hk, rfl⟩ := hu
    exact (key k hk).2

variable {P : Program} {T : Tb} {o : Oper} {ev : Ev} {H : Heap}

theorem src_in {G : Ctx} {ρ : List Value} {w : World} (hs : Sat G ρ H w) {ag : Bool} {sz : Nat} (hsz : 0 < sz) {v : AV} {ys : List AV} {x : Value} (hv : VR ρ (Fz G ρ H w) w v x) (h : SrcOk H ag sz v ys) : SrcIn ρ (Fz G ρ H w) w ag sz ys x := by
  rcases h with ⟨full, es, rfl, rfl⟩ | rfl | ⟨rfl, rfl⟩ | ⟨id, te, n, rfl, hH, rfl⟩
  · cases hv with
    | d _ _ hd =>
      cases hd with
      | nil => exact .inl ⟨rfl, rfl⟩
      | sl _ _ _ _ b of cap cell hcap hmax hfull hS hse hc hr =>
        have hi : ∀ i, i < es.length → ∀ j, j < sz → ∃ e c, es[i]? = some e ∧ e.cells[j]? = some c := by
          intro i hi j hj
          have he : es[i]? = some es[i] := by simp [hi]
          have hl := (hse i es[i] he).1
          exact ⟨es[i], es[i].cells[j], he, by simp [hl, hj]⟩
        have hrc := range_cells (n := es.length) hsz (cell := cell) (b := b) (o := of) (w := w) (fun i hi' j hj => by
          obtain ⟨e, c, h1, h2⟩ := hi i hi' j hj
          exact hc i e j c h1 h2)
        refine .inr ⟨⟨b, of, none⟩, cap, (List.range (es.length * sz)).map cell, by simp, by simp, hrc.1, hrc.2, ?_, ?_⟩
        · intro i e he
          simp only [List.getElem?_map, Option.map_eq_some_iff] at he
          obtain ⟨d, hd, rfl⟩ := he
          have h3 := hse i d hd
          exact ⟨by rw [D.cells_av]; simp [h3.1], by rw [← h3.2]; cases d <;> rfl⟩
        · intro i e j c he hj
          simp only [List.getElem?_map, Option.map_eq_some_iff] at he
          obtain ⟨d, hd, rfl⟩ := he
          rw [D.cells_av] at hj
          simp only [List.getElem?_map, Option.map_eq_some_iff] at hj
          obtain ⟨q, hq, rfl⟩ := hj
          have hil := (List.getElem?_eq_some_iff.1 hd).1
          have hjl : j < sz := by rw [← (hse i d hd).1]; exact (List.getElem?_eq_some_iff.1 hq).1
          have hlt : i * sz + j < es.length * sz := by
            have : (i + 1) * sz ≤ es.length * sz := Nat.mul_le_mul_right _ hil
            rw [Nat.succ_mul] at this
            omega
          exact ⟨cell (i * sz + j), by simp [hlt], (hc i d j q hd hq).2, .d _ _ (hr i d j q hd hq)⟩
  · cases hv with
    | sl _ _ _ b cell hmax hS hse hc hr =>
      have hi : ∀ i, i < ys.length → ∀ j, j < sz → ∃ e c, ys[i]? = some e ∧ e.cells[j]? = some c := by
        intro i hi j hj
        have he : ys[i]? = some ys[i] := by simp [hi]
        have hl := (hse i ys[i] he).1
        exact ⟨ys[i], ys[i].cells[j], he, by simp [hl, hj]⟩
      have hrc := range_cells (n := ys.length) hsz (cell := cell) (b := b) (o := 0) (w := w) (fun i hi' j hj => by
        obtain ⟨e, c, h1, h2⟩ := hi i hi' j hj
        rw [Nat.zero_add]
        exact hc i e j c h1 h2)
      refine .inr ⟨⟨b, 0, none⟩, ys.length, (List.range (ys.length * sz)).map cell, rfl, by simp, hrc.1, hrc.2, hse, ?_⟩
      intro i e j c he hj
      have hil := (List.getElem?_eq_some_iff.1 he).1
      have hjl : j < sz := by rw [← (hse i e he).1]; exact (List.getElem?_eq_some_iff.1 hj).1
      have hlt : i * sz + j < ys.length * sz := by
        have : (i + 1) * sz ≤ ys.length * sz := Nat.mul_le_mul_right _ hil
        rw [Nat.succ_mul] at this
        omega
      exact ⟨cell (i * sz + j), by simp [hlt], (hc i e j c he hj).2, hr i e j c he hj⟩
  · cases hv with
    | d _ _ hd => cases hd; exact .inl ⟨rfl, rfl⟩
  · cases hv with
    | row _ _ ad len cap v hρ hle hv hone =>
      obtain ⟨xs, hown, hcells⟩ := hs.obj id _ _ hH hρ
      rcases hown.2 with ⟨e1, e2⟩ | ⟨g, cap', cur, e1, _, hh, hnc, hcm, hcs, htk⟩
      · cases e1
        have := hv e2
        subst this
        exact .inl ⟨rfl, List.eq_nil_of_length_eq_zero e2⟩
      · cases e1
        have := hv rfl
        subst this
        refine .inr ⟨⟨g, 0, none⟩, cap, xs, rfl, hown.1, hown.cells (g := g) rfl, ?_, hcells⟩
        intro u hu
        obtain ⟨k, hk⟩ := List.getElem?_of_mem hu
        have hkl := (List.getElem?_eq_some_iff.1 hk).1
        rw [hown.1] at hkl
        have h1 : k / sz < ys.length := Nat.div_lt_of_lt_mul (by rw [Nat.mul_comm]; exact hkl)
        have he : ys[k / sz]? = some ys[k / sz] := by simp [h1]
        have hcl := (hcells.1 _ _ he).1
        have hm := Nat.mod_lt k hsz
        obtain ⟨y, hy, hy1, _⟩ := hcells.2 (k / sz) ys[k / sz] (k % sz) ys[k / sz].cells[k % sz] he (by simp [hcl, hm])
        rw [show k / sz * sz + k % sz = k by rw [Nat.mul_comm]; exact Nat.div_add_mod k sz, hk] at hy
        cases hy
        exact hy1

theorem RowCells.append {ρ : List Value} {S : Nat → Prop} {w : World} {ag : Bool} {sz : Nat} {es ys : List AV} {xs us : List Value} (h : RowCells ρ S w ag sz es xs) (hl : xs.length = es.length * sz) (k : RowCells ρ S w ag sz ys us) :
    RowCells ρ S w ag sz (es ++ ys) (xs ++ us) := by
  refine ⟨fun i e he => ?_, fun i e j c he hj => ?_⟩
  · rcases Nat.lt_or_ge i es.length with hi | hi
    · rw [List.getElem?_append_left hi] at he
      exact h.1 i e he
    · rw [List.getElem?_append_right hi] at he
      exact k.1 _ e he
  · rcases Nat.lt_or_ge i es.length with hi | hi
    · rw [List.getElem?_append_left hi] at he
      obtain ⟨x, hx, h1⟩ := h.2 i e j c he hj
      exact ⟨x, by rw [List.getElem?_append_left (List.getElem?_eq_some_iff.1 hx).1]; exact hx, h1⟩
    · rw [List.getElem?_append_right hi] at he
      obtain ⟨x, hx, h1⟩ := k.2 _ e j c he hj
      have : es.length * sz ≤ i * sz := Nat.mul_le_mul_right _ hi
      refine ⟨x, ?_, h1⟩
      rw [List.getElem?_append_right (by omega), hl, show i * sz + j - es.length * sz = (i - es.length) * sz + j by rw [Nat.sub_mul]; omega]
      exact hx

theorem RowCells.nil {ρ : List Value} {S : Nat → Prop} {w : World} {ag : Bool} {sz : Nat} : RowCells ρ S w ag sz [] [] := ⟨fun i e h => by simp at h, fun i e j c h => by simp at h⟩

theorem run_append_exec {s x : Operand} {t : TypeId} {a : Act} {w w' : World} {v : Value} (ho : o.op = .call { callee := .builtin .append, args := #[s, x], argTypes := #[t, t] })
    (hr : (Builtin.append_ #[t, t] o.type #[a.eval s, a.eval x]).run P w = .ok v w') : (execOp a.eval o).run P w = .ok (.value v) w' := by
  simp only [execOp, ho, resolve, invoke, builtin, Sem.run_bind, Sem.run_pure, Result.andThen_ok, List.map_toArray, List.map_cons, List.map_nil, hr]

/-- append onto a row of the walk's own. -/
theorem ok_append_row {t e : TypeId} {i ie : TI} {s x : Operand} {id n : Nat} {es ys : List AV} {v : AV} (hT : TbOk P T) (ho : o.op = .call { callee := .builtin .append, args := #[s, x], argTypes := #[t, t] })
    (hi : T t = some i) (hk : i.k = .slice e) (hie : T e = some ie) (hsz : 0 < ie.sz) (hs : ev s = some (.row id n)) (hx : ev x = some v) (hH : H[id]? = some (.row e ie.agg ie.sz es)) (hn : n = es.length) (hsrc : SrcOk H ie.agg ie.sz v ys)
    (hne : ∀ m, v ≠ .row id m) (hb : (es.length + ys.length) * ie.bt ≤ 140737488355328) (hb' : es.length + ys.length ≤ 140737488355328) : OpOk P o ev H (.row id (es.length + ys.length)) (H.set id (.row e ie.agg ie.sz (es ++ ys))) := by
  obtain ⟨info, d, hok⟩ := hT t i hi
  obtain ⟨info', d', hok'⟩ := hT e ie hie
  have hfit := hok.k
  rw [hk] at hfit
  have hd : d = .slice e := hfit
  subst hd
  refine .of_run fun G ρ w a _ hst he => ?_
  subst hn
  have h1 := he s _ hs
  have h2 := src_in hst hsz (he x _ hx) hsrc
  generalize hsa : a.eval s = sa at h1
  generalize hxa : a.eval x = xa at h2
  cases h1 with
  | row _ _ ad len cap v' hρ hle hv hone =>
    obtain ⟨xs, hown, hcells⟩ := hst.obj id _ _ hH hρ
    have hlen : len = es.length := by
      rcases hown.2 with ⟨e1, e2⟩ | ⟨g, cap', cur, e1, _⟩
      · cases e1; exact e2.symm
      · cases e1; rfl
    subst hlen
    have hv' := hv rfl
    subst hv'
    have hzs : (if ie.agg then Value.agg ie.z.toArray else ie.z.headD undef).cells.size = ie.sz := by
      cases ha : ie.agg with
      | true => simp [Value.cells, hok'.zl]
      | false =>
        have h1 := hok'.one ha
        have h2 := hok'.zl
        rw [h1] at h2
        match hz : ie.z, h2 with
        | [x], _ =>
          have := hok'.z1 x (by simp [hz])
          cases x <;> simp_all [Value.cells, Value.oneCell']
    have hid : id < ρ.length := (List.getElem?_eq_some_iff.1 hρ).1
    rcases h2 with ⟨rfl, rfl⟩ | ⟨ad2, c2, news, rfl, hnl, hnews, hone2, hrc⟩
    · have hr := run_append_owned_none (P := P) w 0 t o.type e info' ie.sz hok.und hok'.info _ _ xs hown
      have hset : ρ.set id (.slice ad es.length cap) = ρ := by
        apply List.ext_getElem?
        intro j
        by_cases hj : id = j
        · subst hj
          rw [List.getElem?_set_self hid, hρ]
        · rw [List.getElem?_set_ne hj]
      simp only [List.append_nil]
      obtain ⟨s1, s2⟩ := hst.change (w' := w) hH hρ (.row e ie.agg ie.sz es) (.slice ad es.length cap) rfl rfl rfl (Nat.le_refl _) (fun _ _ _ => rfl) (fun k _ hk => .inl ⟨rfl, hk⟩) (.inl rfl)
        (fun hk hrp => ⟨xs, hown, hcells.keep hrp hk⟩)
      rw [hset] at s1 s2
      refine ⟨ρ, w, .slice ad es.length cap, run_append_exec ho (by rw [hsa, hxa]; exact hr), s1, s2, ?_⟩
      exact .row id _ ad es.length cap _ hρ (by simp) (fun _ => rfl) rfl
    · obtain ⟨v', w', hr, hown', hgr, _, hat⟩ := run_append_own_at (P := P) w 0 t o.type e info' _ ie.sz ie.bt hok.und hok'.info hok'.zero hok'.sz hok'.bt hzs hsz _ es.length xs hown ad2 ys.length c2 news hnl hnews hone2
        (by simp only [maxLen]; omega) hb (Nat.zero_le _)
      have hform : ∃ a' c', v' = .slice a' (es.length + ys.length) c' := by
        rcases hown'.2 with ⟨e1, e2⟩ | ⟨g, cap', cur, e1, _⟩
        · exact ⟨none, 0, by rw [e1, e2]⟩
        · exact ⟨_, _, e1⟩
      obtain ⟨a', c', rfl⟩ := hform
      have hbo : ∀ (q : Value), (∃ a n c, q = .slice a n c) → blk q = q.ownBlock := by
        rintro q ⟨a, n, c, rfl⟩
        cases a <;> rfl
      -- where nothing is appended, the row stays as it is
      by_cases hy : ys.length = 0
      · obtain rfl : ys = [] := List.eq_nil_of_length_eq_zero hy
        obtain rfl : news = [] := List.eq_nil_of_length_eq_zero (by simpa using hnl)
        have hv0 : a' = ad ∧ c' = cap ∧ w' = w := by
          rcases hown.2 with ⟨e1, e2⟩ | ⟨g, cap', cur, e1, _, hh, hnc, hcm, hcs, htk⟩
          · simp only [Value.slice.injEq] at e1
            obtain ⟨rfl, _, rfl⟩ := e1
            have : (Builtin.append_ #[t, t] o.type #[.slice none es.length 0, .slice (some ad2) 0 c2]).run P w = .ok (.slice none es.length 0) w := by
              rw [e2]
              simp [Builtin.append_, run_underlying hok.und, sizeOf, typeInfo, hok'.info, Builtin.lenOf, Builtin.firstCells, loadCells, loadCellsFrom]
            have hr' := hr.symm.trans this
            simp only [Result.ok.injEq, Value.slice.injEq] at hr'
            exact ⟨hr'.1.1, hr'.1.2.2, hr'.2⟩
          · cases e1
            have : (Builtin.append_ #[t, t] o.type #[.slice (some ⟨g, 0, none⟩) es.length cap, .slice (some ad2) 0 c2]).run P w = .ok (.slice (some ⟨g, 0, none⟩) es.length cap) w := by
              simp [Builtin.append_, run_underlying hok.und, sizeOf, typeInfo, hok'.info, Builtin.lenOf, Builtin.firstCells, loadCells, loadCellsFrom, hnc, storeCells]
            have hr' := hr.symm.trans this
            simp only [Result.ok.injEq, Value.slice.injEq] at hr'
            exact ⟨hr'.1.1, hr'.1.2.2, hr'.2⟩
        obtain ⟨rfl, rfl, rfl⟩ := hv0
        have hset : ρ.set id (.slice a' es.length c') = ρ := by
          apply List.ext_getElem?
          intro j
          by_cases hj : id = j
          · subst hj
            rw [List.getElem?_set_self hid, hρ]
          · rw [List.getElem?_set_ne hj]
        simp only [List.append_nil]
        obtain ⟨s1, s2⟩ := hst.change (w' := w') hH hρ (.row e ie.agg ie.sz es) (.slice a' es.length c') rfl rfl rfl (Nat.le_refl _) (fun _ _ _ => rfl) (fun k _ hk => .inl ⟨rfl, hk⟩) (.inl rfl)
          (fun hk hrp => ⟨xs, hown, hcells.keep hrp hk⟩)
        rw [hset] at s1 s2
        refine ⟨ρ, w', .slice a' es.length c', run_append_exec ho (by rw [hsa, hxa]; exact hr), s1, s2, ?_⟩
        exact .row id _ a' es.length c' _ hρ (by simp) (fun _ => rfl) rfl
      · obtain ⟨s1, s2⟩ := hst.change (w' := w') hH hρ (.row e ie.agg ie.sz (es ++ ys)) (.slice a' (es.length + ys.length) c') hgr.os hgr.tape hgr.output hgr.size
          (fun k hk hne => hgr.block k hk (fun e => hne rfl (by rw [hbo _ ⟨_, _, _, rfl⟩]; exact e.symm)))
          (fun k _ hk => by
            rw [hbo _ ⟨_, _, _, rfl⟩] at hk
            rcases hat with hat | hat
            · exact .inl ⟨rfl, by rw [hbo _ ⟨_, _, _, rfl⟩, ← hat]; exact hk⟩
            · rw [hat] at hk
              cases hk
              exact .inr (Nat.le_refl _))
          (.inr (.inl ⟨_, _, _, _, _, _, rfl, rfl, by omega⟩))
          (fun hk hrp => by
            refine ⟨xs ++ news, by rw [List.length_append]; exact hown', ?_⟩
            exact (hcells.append hown.1 hrc).keep hrp hk)
        refine ⟨_, w', .slice a' (es.length + ys.length) c', run_append_exec ho (by rw [hsa, hxa]; exact hr), s1, s2, ?_⟩
        exact .row id _ a' (es.length + ys.length) c' _ (by simp [hid]) (Nat.le_refl _) (fun _ => rfl) rfl

/-- append onto nil: a new row. -/
theorem ok_append_nil {t e : TypeId} {i ie : TI} {s x : Operand} {ys : List AV} {v : AV} (hT : TbOk P T) (ho : o.op = .call { callee := .builtin .append, args := #[s, x], argTypes := #[t, t] })
    (hi : T t = some i) (hk : i.k = .slice e) (hie : T e = some ie) (hsz : 0 < ie.sz) (hs : ev s = some (.d (.v (.slice none 0 0)))) (hx : ev x = some v) (hsrc : SrcOk H ie.agg ie.sz v ys)
    (hb : ys.length * ie.bt ≤ 140737488355328) (hb' : ys.length ≤ 140737488355328) : OpOk P o ev H (.row H.length ys.length) (H ++ [.row e ie.agg ie.sz ys]) := by
  obtain ⟨info, d, hok⟩ := hT t i hi
  obtain ⟨info', d', hok'⟩ := hT e ie hie
  have hfit := hok.k
  rw [hk] at hfit
  have hd : d = .slice e := hfit
  subst hd
  refine .of_run fun G ρ w a _ hst he => ?_
  have hsa := he.v hs
  have h2 := src_in hst hsz (he x _ hx) hsrc
  generalize hxa : a.eval x = xa at h2
  have hzs : (if ie.agg then Value.agg ie.z.toArray else ie.z.headD undef).cells.size = ie.sz := by
    cases ha : ie.agg with
    | true => simp [Value.cells, hok'.zl]
    | false =>
      have h1 := hok'.one ha
      have h2 := hok'.zl
      rw [h1] at h2
      match hz : ie.z, h2 with
      | [x], _ =>
        have := hok'.z1 x (by simp [hz])
        cases x <;> simp_all [Value.cells, Value.oneCell']
  rcases h2 with ⟨rfl, rfl⟩ | ⟨ad2, c2, news, rfl, hnl, hnews, hone2, hrc⟩
  · have hr := run_append_owned_none (P := P) w 0 t o.type e info' ie.sz hok.und hok'.info _ _ [] (World.ownsRow_nil w 0 e ie.sz)
    obtain ⟨s1, s2⟩ := hst.new (w' := w) (.row e ie.agg ie.sz []) (.slice none 0 0) rfl rfl rfl (Nat.le_refl _) (fun _ _ => rfl) (fun b hb => by cases hb)
      (fun s => ⟨[], World.ownsRow_nil w 0 e ie.sz, RowCells.nil⟩)
    refine ⟨_, w, .slice none 0 0, run_append_exec ho (by rw [hsa, hxa]; exact hr), s1, s2, ?_⟩
    exact .row _ _ none 0 0 _ (by rw [← hst.len]; simp) (Nat.le_refl _) (fun _ => rfl) rfl
  · obtain ⟨v', w', hr, hown', hgr, _, hat⟩ := run_append_own_at (P := P) w w.heap.size t o.type e info' _ ie.sz ie.bt hok.und hok'.info hok'.zero hok'.sz hok'.bt hzs hsz _ 0 [] (World.ownsRow_nil w _ e ie.sz) ad2 ys.length c2 news hnl hnews hone2
      (by simp only [maxLen]; omega) (by simpa using hb) (Nat.le_refl _)
    simp only [Nat.zero_add, List.nil_append] at hown'
    have hform : ∃ a' c', v' = .slice a' ys.length c' := by
      rcases hown'.2 with ⟨e1, e2⟩ | ⟨g, cap', cur, e1, _⟩
      · exact ⟨none, 0, by rw [e1, e2]⟩
      · exact ⟨_, _, e1⟩
    obtain ⟨a', c', rfl⟩ := hform
    have hown0 : w'.ownsRow 0 e ie.sz (.slice a' ys.length c') ys.length news := by
      refine ⟨hown'.1, ?_⟩
      rcases hown'.2 with h | ⟨g, cap', cur, e1, hg, r⟩
      · exact .inl h
      · exact .inr ⟨g, cap', cur, e1, Nat.zero_le _, r⟩
    obtain ⟨s1, s2⟩ := hst.new (w' := w') (.row e ie.agg ie.sz ys) (.slice a' ys.length c') hgr.os hgr.tape hgr.output hgr.size (fun k hk => hgr.block k hk (fun e => by cases e))
      (fun b hb => by
        rcases hown'.2 with ⟨e1, _⟩ | ⟨g, cap', cur, e1, hg, r⟩
        · simp only [Value.slice.injEq] at e1
          obtain ⟨rfl, _⟩ := e1
          cases hb
        · simp only [Value.slice.injEq] at e1
          obtain ⟨rfl, _⟩ := e1
          cases hb
          exact hg)
      (fun s => ⟨news, hown0, hrc.keep s.rp (hst.kp s)⟩)
    refine ⟨_, w', .slice a' ys.length c', run_append_exec ho (by rw [hsa, hxa]; exact hr), s1, s2, ?_⟩
    exact .row _ _ a' ys.length c' _ (by rw [← hst.len]; simp) (Nat.le_refl _) (fun _ => rfl) rfl

/-- append onto a slice without room: a new row. -/
theorem ok_append_full {t e : TypeId} {i ie : TI} {s x : Operand} {es : List D} {ys : List AV} {v : AV} (hT : TbOk P T) (ho : o.op = .call { callee := .builtin .append, args := #[s, x], argTypes := #[t, t] })
    (hi : T t = some i) (hk : i.k = .slice e) (hie : T e = some ie) (hsz : 0 < ie.sz) (hs : ev s = some (.d (.sl true ie.agg ie.sz es))) (hx : ev x = some v) (hsrc : SrcOk H ie.agg ie.sz v ys) (hpos : 0 < ys.length)
    (hb : (es.length + ys.length) * ie.bt ≤ 140737488355328) (hb' : es.length + ys.length ≤ 140737488355328) : OpOk P o ev H (.row H.length (es.length + ys.length)) (H ++ [.row e ie.agg ie.sz (es.map .d ++ ys)]) := by
  obtain ⟨info, d, hok⟩ := hT t i hi
  obtain ⟨info', d', hok'⟩ := hT e ie hie
  have hfit := hok.k
  rw [hk] at hfit
  have hd : d = .slice e := hfit
  subst hd
  by_cases hes : es = []
  · subst hes
    have hz : ∀ (G : Ctx) (ρ : List Value) (w : World) (a : Act), G.P = P → Sat G ρ H w → EvR ρ (Fz G ρ H w) w ev a → True := fun _ _ _ _ _ _ _ => trivial
    refine .of_run fun G ρ w a _ hst he => ?_
    have h1 := he s _ hs
    have h2 := src_in hst hsz (he x _ hx) hsrc
    generalize hsa : a.eval s = sa at h1
    generalize hxa : a.eval x = xa at h2
    rcases h2 with ⟨rfl, rfl⟩ | ⟨ad2, c2, news, rfl, hnl, hnews, hone2, hrc⟩
    · simp at hpos
    · have hrun : ∃ C, (Builtin.append_ #[t, t] o.type #[sa, .slice (some ad2) ys.length c2]).run P w =
          .ok (.slice (some ⟨w.heap.size, 0, none⟩) ys.length (ys.length + C)) (w.drew.alloc (.cells (news.toArray ++ Builtin.zeroCells (if ie.agg then Value.agg ie.z.toArray else ie.z.headD undef).cells C) e)) ∧ ys.length + C ≤ maxLen := by
        have hge : ∀ old, ys.length ≤ grownCap w ys.length old e := fun old => grownCap_ge w _ old e
        have hle : ∀ old, grownCap w ys.length old e ≤ maxLen := fun old => grownCap_le_maxLen w _ old e (by simp only [maxLen]; simp at hb'; omega)
        cases h1 with
        | d _ _ hd =>
          cases hd with
          | nil =>
            have hr := run_append_nil (P := P) w t o.type e info' _ hok.und hok'.info hok'.zero ad2 ys.length c2 news (by rw [hok'.sz]; exact hnl) hnews hpos (by simp at hb'; omega) (by rw [hok'.bt]; simp at hb; omega)
            refine ⟨grownCap w ys.length 0 e - ys.length, ?_, by have := hge 0; have := hle 0; omega⟩
            rw [hr]
            have := hge 0
            rw [show ys.length + (grownCap w ys.length 0 e - ys.length) = grownCap w ys.length 0 e by omega]
          | sl _ _ _ _ b of cap cell hcap hmax hfull hS hse hc hr =>
            have hcap0 := hfull rfl
            simp at hcap0
            subst hcap0
            have hr := run_append_grow (P := P) w t o.type e info' _ hok.und hok'.info hok'.zero ⟨b, of, none⟩ 0 0 [] (by simp) (fun j v h => by simp at h) ad2 ys.length c2 news (by rw [hok'.sz]; exact hnl) hnews (by omega) (by simp at hb'; omega)
              (by rw [hok'.bt]; exact growslice_fits (by omega) (by simpa using hb))
            simp only [Nat.zero_add, Array.empty_append] at hr
            refine ⟨grownCap w ys.length 0 e - ys.length, ?_, by have := hge 0; have := hle 0; omega⟩
            simp only [List.length_nil]
            rw [hr]
            have := hge 0
            rw [show ys.length + (grownCap w ys.length 0 e - ys.length) = grownCap w ys.length 0 e by omega]
      obtain ⟨C, hr, hC⟩ := hrun
      generalize hZ : Builtin.zeroCells (if ie.agg then Value.agg ie.z.toArray else ie.z.headD undef).cells C = Z at hr
      have hzs : (if ie.agg then Value.agg ie.z.toArray else ie.z.headD undef).cells.size = ie.sz := by
        cases ha : ie.agg with
        | true => simp [Value.cells, hok'.zl]
        | false =>
          have h1 := hok'.one ha
          have h2 := hok'.zl
          rw [h1] at h2
          match hz : ie.z, h2 with
          | [x], _ =>
            have := hok'.z1 x (by simp [hz])
            cases x <;> simp_all [Value.cells, Value.oneCell']
      have hZs : Z.size = C * ie.sz := by rw [← hZ, size_zeroCells, hzs]
      obtain ⟨s1, s2⟩ := hst.new (w' := w.drew.alloc (.cells (news.toArray ++ Z) e)) (.row e ie.agg ie.sz ([].map .d ++ ys)) (.slice (some ⟨w.heap.size, 0, none⟩) ys.length (ys.length + C)) rfl rfl rfl (by simp)
        (fun k hk => heap_alloc_old w.drew _ hk) (fun b hb => by cases hb; exact Nat.le_refl _)
        (fun s => ⟨news, by
          simp only [List.map_nil, List.nil_append]
          refine ⟨hnl, .inr ⟨w.heap.size, _, _, rfl, Nat.zero_le _, heap_alloc_new w.drew _, by omega, hC, ?_, ?_⟩⟩
          · simp [hnl, hZs, Nat.add_mul]
          · simp only [Array.toList_append, ← hnl]
            exact List.take_left, by simpa using hrc.keep s.rp (hst.kp s)⟩)
      refine ⟨_, _, .slice (some ⟨w.heap.size, 0, none⟩) ys.length (ys.length + C), run_append_exec ho (by rw [hsa, hxa]; exact hr), s1, s2, ?_⟩
      exact .row _ _ _ ys.length _ _ (by rw [← hst.len]; simp) (by simp) (fun _ => rfl) rfl
  · refine .of_run fun G ρ w a _ hst he => ?_
    have h1 := he s _ hs
    have h2 := src_in hst hsz (he x _ hx) hsrc
    have h3 := src_in hst hsz (he s _ hs) (.d H ie.agg ie.sz true es)
    generalize hsa : a.eval s = sa at h1 h3
    generalize hxa : a.eval x = xa at h2
    rcases h2 with ⟨rfl, rfl⟩ | ⟨ad2, c2, news, rfl, hnl, hnews, hone2, hrc⟩
    · simp at hpos
    · rcases h3 with ⟨_, h3⟩ | ⟨ad1, c1, olds, rfl, hol, hnolds, hone1, hrc1⟩
      · simp at h3; exact (hes h3).elim
      · rw [List.length_map] at hol
        have hc1 : c1 = es.length := by
          cases h1 with
          | d _ _ hd =>
            generalize hq : Value.slice (some ad1) (es.map AV.d).length c1 = q at hd
            cases hd with
            | nil => cases hq
            | sl _ _ _ _ b of cap cell hcap hmax hfull hS hse hc hr =>
              have := hfull rfl
              simp only [Value.slice.injEq] at hq
              omega
        subst hc1
        have hr := run_append_grow (P := P) w t o.type e info' _ hok.und hok'.info hok'.zero ad1 es.length es.length olds (by rw [hok'.sz]; exact hol) hnolds ad2 ys.length c2 news (by rw [hok'.sz]; exact hnl) hnews (by omega) (by omega)
          (by rw [hok'.bt]; exact growslice_fits (by omega) hb)
        have hge := grownCap_ge w (es.length + ys.length) es.length e
        have hle := grownCap_le_maxLen w (es.length + ys.length) es.length e (by simp only [maxLen]; omega)
        generalize hC : grownCap w (es.length + ys.length) es.length e = C at hr hge hle
        generalize hZ : Builtin.zeroCells (if ie.agg then Value.agg ie.z.toArray else ie.z.headD undef).cells (C - (es.length + ys.length)) = Z at hr
        have hzs : (if ie.agg then Value.agg ie.z.toArray else ie.z.headD undef).cells.size = ie.sz := by
          cases ha : ie.agg with
          | true => simp [Value.cells, hok'.zl]
          | false =>
            have h1 := hok'.one ha
            have h2 := hok'.zl
            rw [h1] at h2
            match hz : ie.z, h2 with
            | [x], _ =>
              have := hok'.z1 x (by simp [hz])
              cases x <;> simp_all [Value.cells, Value.oneCell']
        have hZs : Z.size = (C - (es.length + ys.length)) * ie.sz := by rw [← hZ, size_zeroCells, hzs]
        have hnn : (olds ++ news).length = (es.length + ys.length) * ie.sz := by rw [List.length_append, hol, hnl, Nat.add_mul]
        obtain ⟨s1, s2⟩ := hst.new (w' := w.drew.alloc (.cells (olds.toArray ++ news.toArray ++ Z) e)) (.row e ie.agg ie.sz (es.map .d ++ ys)) (.slice (some ⟨w.heap.size, 0, none⟩) (es.length + ys.length) C) rfl rfl rfl (by simp)
          (fun k hk => heap_alloc_old w.drew _ hk) (fun b hb => by cases hb; exact Nat.le_refl _)
          (fun s => ⟨olds ++ news, by
            simp only [List.length_append, List.length_map]
            refine ⟨hnn, .inr ⟨w.heap.size, _, _, rfl, Nat.zero_le _, heap_alloc_new w.drew _, hge, hle, ?_, ?_⟩⟩
            · simp only [Array.size_append, List.size_toArray, hol, hnl, hZs, ← Nat.add_mul]
              congr 1
              omega
            · simp only [Array.toList_append, ← hnn]
              exact List.take_left, (hrc1.append (by simpa using hol) hrc).keep s.rp (hst.kp s)⟩)
        refine ⟨_, _, .slice (some ⟨w.heap.size, 0, none⟩) (es.length + ys.length) C, run_append_exec ho (by rw [hsa, hxa, List.length_map]; exact hr), s1, s2, ?_⟩
        exact .row _ _ _ (es.length + ys.length) _ _ (by rw [← hst.len]; simp) (Nat.le_refl _) (fun _ => rfl) rfl

end Go.Rc
