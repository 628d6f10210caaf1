/- A round of messages, in the program. -/
import Derived.Test.YtchhpagkdaaglaaDoorNetB
import Derived.Test.YtchhpagkdaaglaaDoorParA
set_option linter.unusedVariables false
set_option linter.unusedSimpArgs false
namespace Go.Proofs.YtchhpagkdaaglaaDoor.SL
open Go

/-! ### What a round gives -/
def inTo (said : List (List (List Int))) (n j : Nat) : List (List Int) := (List.range n).map fun i => (said.getD i []).getD j []
theorem inTo_len (said : List (List (List Int))) (n j : Nat) : (inTo said n j).length = n := by simp [inTo]
theorem inTo_succ (said : List (List (List Int))) (n j : Nat) : inTo said (n + 1) j = inTo said n j ++ [(said.getD n []).getD j []] := by simp [inTo, List.range_succ]
def recv (said : List (List (List Int))) (n : Nat) : List (List (List Int)) := (List.range n).map fun j => inTo said n j
theorem recv_len (said : List (List (List Int))) (n : Nat) : (recv said n).length = n := by simp [recv]
theorem recv_get (said : List (List (List Int))) {n j : Nat} (h : j < n) : (recv said n)[j]? = some (inTo said n j) := by simp [recv, h]
def rowV (rd : Int) (said : List (List (List Int))) (j : Nat) (views : List (List Ev)) : Nat → List (List Ev)
  | 0 => views
  | i + 1 => noteV rd (rowV rd said j views i) j i ((said.getD i []).getD j [])
def sendV (rd : Int) (said : List (List (List Int))) (n : Nat) (views : List (List Ev)) : Nat → List (List Ev)
  | 0 => views
  | j + 1 => rowV rd said j (sendV rd said n views j) n
def castRow (rd : Int) (said : List (List Int)) (i : Nat) (views : List (List Ev)) : Nat → List (List Ev)
  | 0 => views
  | j + 1 => noteV rd (castRow rd said i views j) j i (said.getD i [])
def castV (rd : Int) (said : List (List Int)) (n : Nat) (views : List (List Ev)) : Nat → List (List Ev)
  | 0 => views
  | i + 1 => castRow rd said i (castV rd said n views i) n
theorem rowV_len (rd : Int) (said : List (List (List Int))) (j : Nat) (views : List (List Ev)) : ∀ i, (rowV rd said j views i).length = views.length
  | 0 => rfl
  | i + 1 => by rw [rowV, noteV_len, rowV_len rd said j views i]
theorem sendV_len (rd : Int) (said : List (List (List Int))) (n : Nat) (views : List (List Ev)) : ∀ j, (sendV rd said n views j).length = views.length
  | 0 => rfl
  | j + 1 => by rw [sendV, rowV_len, sendV_len rd said n views j]
theorem castRow_len (rd : Int) (said : List (List Int)) (i : Nat) (views : List (List Ev)) : ∀ j, (castRow rd said i views j).length = views.length
  | 0 => rfl
  | j + 1 => by rw [castRow, noteV_len, castRow_len rd said i views j]
theorem castV_len (rd : Int) (said : List (List Int)) (n : Nat) (views : List (List Ev)) : ∀ i, (castV rd said n views i).length = views.length
  | 0 => rfl
  | i + 1 => by rw [castV, castRow_len, castV_len rd said n views i]
/-- No view is longer than B. -/
def Few (views : List (List Ev)) (B : Nat) : Prop := ∀ k, (views.getD k []).length ≤ B
theorem Few.note {views : List (List Ev)} {B : Nat} (h : Few views B) (rd : Int) (who fr : Nat) (l : List Int) : Few (noteV rd views who fr l) (B + 1) := by
  intro k
  unfold noteV
  split
  · by_cases hk : k < views.length
    · rw [getD_set _ _ _ _ _ hk]
      split
      · rw [List.length_append, List.length_singleton]
        have := h who
        omega
      · have := h k
        omega
    · rw [List.getD_eq_getElem?_getD, List.getElem?_eq_none (by simpa using hk)]
      simp
  · have := h k
    omega
theorem Few.mono {views : List (List Ev)} {B C : Nat} (h : Few views B) (hc : B ≤ C) : Few views C := fun k => Nat.le_trans (h k) hc
theorem Few.row {views : List (List Ev)} {B : Nat} (h : Few views B) (rd : Int) (said : List (List (List Int))) (j : Nat) : ∀ i, Few (rowV rd said j views i) (B + i)
  | 0 => h
  | i + 1 => (Few.row h rd said j i).note rd j i _
theorem Few.send {views : List (List Ev)} {B : Nat} (h : Few views B) (rd : Int) (said : List (List (List Int))) (n : Nat) : ∀ j, Few (sendV rd said n views j) (B + j * n)
  | 0 => h.mono (by omega)
  | j + 1 => ((Few.send h rd said n j).row rd said j n).mono (by rw [Nat.succ_mul]; omega)
theorem Few.castRow {views : List (List Ev)} {B : Nat} (h : Few views B) (rd : Int) (said : List (List Int)) (i : Nat) : ∀ j, Few (castRow rd said i views j) (B + j)
  | 0 => h
  | j + 1 => (Few.castRow h rd said i j).note rd j i _
theorem Few.cast {views : List (List Ev)} {B : Nat} (h : Few views B) (rd : Int) (said : List (List Int)) (n : Nat) : ∀ i, Few (castV rd said n views i) (B + i * n)
  | 0 => h.mono (by omega)
  | i + 1 => ((Few.cast h rd said n i).castRow rd said i n).mono (by rw [Nat.succ_mul]; omega)
/-! ### What has grown is handed out -/
open Classical in
noncomputable def hres (H : Heap) (F : Nat → Prop) : Heap := fun b => if F b then H b else none
theorem hres_in {H : Heap} {F : Nat → Prop} {b : Nat} (h : F b) : hres H F b = H b := by unfold hres; rw [if_pos h]
theorem hres_out {H : Heap} {F : Nat → Prop} {b : Nat} (h : ¬ F b) : hres H F b = none := by unfold hres; rw [if_neg h]
theorem hres_le (H : Heap) (F : Nat → Prop) : Le (hres H F) H := fun b c hc => by
  by_cases h : F b
  · rwa [hres_in h] at hc
  · rw [hres_out h] at hc; cases hc
section
variable {α : Type} {e : El α} {F : Nat → Prop} {ei eo : TypeId} {R H K : Heap} {v : Value} {rows : List (List Value)} {xss : List (List α)}
theorem Nest.sl (h : Nest F e.sz ei eo H v rows) (h0 : 0 < e.sz) (hlen : rows.length = xss.length) (hr : ∀ (j : Nat) cs xs, rows[j]? = some cs → xss[j]? = some xs → Cs e R cs xs) (hl : Le R K) (hK : ∀ b c, F b → H b = some c → K b = some c) : Sl (eSlice e) K v xss := by
  have hk := h.keep hK
  obtain ⟨us, h1, h2, h3, h4, h5, h6⟩ := hk
  rw [hlen] at h2
  refine h2.sl (e := eSlice e) fun i x hi => ?_
  obtain ⟨hil, rfl⟩ := List.getElem?_eq_some_iff.1 hi
  have hiu : i < us.length := by omega
  have hir : i < rows.length := by omega
  obtain ⟨n, ho⟩ := h3 i us[i] rows[i] (List.getElem?_eq_getElem hiu) (List.getElem?_eq_getElem hir)
  exact ⟨us[i], one_get _ i us[i] (List.getElem?_eq_getElem hiu), (hr i _ _ (List.getElem?_eq_getElem hir) hi).sl hl ho h0⟩
end
section
variable {R R1 H H1 N : Heap} {F F1 : Nat → Prop} {tn : TypeId} {jn : Nat} {s : Scn} {cv dv tv tp : Value} {rd : Int} {views : List (List Ev)}
theorem NetAt.tick (h : NetAt R F tn H jn s cv dv tv tp rd views) (r : Int) : ∃ H', vStore ty3 (.pointer (some ⟨jn, 6, none⟩)) (.int .i64 r) H = some H' ∧ NetAt R F tn H' jn s cv dv tv tp r views ∧ ∀ b, b ≠ jn → H' b = H b := by
  obtain ⟨vv, rows, b1, b2, b3, b4⟩ := h.body
  have st : vStore ty3 (.pointer (some ⟨jn, 6, none⟩)) (.int .i64 r) H = some (hins H jn (.cells (netCells s cv dv tv tp r vv) 9 tn true)) := by
    simp only [vStore, b1]
    rfl
  have oth : ∀ b, b ≠ jn → hins H jn (.cells (netCells s cv dv tv tp r vv) 9 tn true) b = H b := fun b hb => hins_other _ _ hb
  have hF : ∀ b, F b → b ≠ jn := fun b hb e => h.jF (e ▸ hb)
  refine ⟨_, st, ⟨fun b c hc => ?_, h.ok, h.off, fun b hb => ?_, h.jR, h.jF, vv, rows, hins_self _ _ _, b2.keep fun b c hb hc => ?_, b3, b4⟩, oth⟩
  · rw [oth b (fun e => by subst e; rw [h.jR] at hc; cases hc)]
    exact h.le b c hc
  · rw [oth b (hF b hb)]
    exact h.kn b hb
  · rw [oth b (hF b hb)]
    exact hc
/-- What a round leaves behind. -/
def Sent {α : Type} (e : El α) (R : Heap) (F : Nat → Prop) (tn : TypeId) (H : Heap) (jn : Nat) (s : Scn) (cv dv tv tp : Value) (rd : Int) (views : List (List Ev)) (got : List α) : Ending → Heap → Prop := Ret fun v H' => ∃ R' F', Le R R' ∧ (∀ i, R' i ≠ none → R i ≠ none ∨ H i = none) ∧ NetAt R' F' tn H' jn s cv dv tv tp rd views ∧ Sl e R' v got ∧ Wide F H F' ∧ Off (fun b => F b ∨ b = jn) H H'
/-- Another that grows beside a network. -/
structure Beside (R H : Heap) (F : Nat → Prop) (jn : Nat) (Fi : Nat → Prop) : Prop where
  off : ∀ b, Fi b → R b = none
  kn : ∀ b, Fi b → H b ≠ none
  dj : ∀ b, Fi b → ¬ F b ∧ b ≠ jn
theorem Beside.noted {Fi : Nat → Prop} (h : Beside R H F jn Fi) (hf : ∀ i, R1 i ≠ none → R i ≠ none ∨ H i = none) (hw : Wide F H F1) (ho : Off F H H1) : Beside R1 H1 F1 jn Fi := by
  refine ⟨fun b hb => ?_, fun b hb => ?_, fun b hb => ⟨fun hF => ?_, (h.dj b hb).2⟩⟩
  · cases he : R1 b with
    | none => rfl
    | some c =>
      rcases hf b (by rw [he]; simp) with e | e
      · exact absurd (h.off b hb) e
      · exact absurd e (h.kn b hb)
  · cases he : H b with
    | none => exact absurd he (h.kn b hb)
    | some c => rw [ho b c he (h.dj b hb).1]; simp
  · rcases hw.2 b hF with e | e
    · exact (h.dj b hb).1 e
    · exact h.kn b hb e
theorem Beside.news {Fi : Nat → Prop} (h : Beside R H F jn Fi) (hN : New H H1 N) : Beside (hun R N) H1 F jn Fi := by
  refine ⟨fun b hb => hun_none.2 ⟨h.off b hb, ?_⟩, fun b hb => ?_, h.dj⟩
  · cases he : N b with
    | none => rfl
    | some c => exact absurd (hN.2.2 b (by rw [he]; simp)) (h.kn b hb)
  · cases he : H b with
    | none => exact absurd he (h.kn b hb)
    | some c => rw [hN.1 b c he]; simp
/-- The other has grown. -/
theorem NetAt.beside {Fi Fi' : Nat → Prop} (h : NetAt R F tn H jn s cv dv tv tp rd views) (hb : Beside R H F jn Fi) (ho : Off Fi H H1) (hw : Wide Fi H Fi') (hk : ∀ b, Fi' b → (Fi b → H b ≠ none) → H1 b ≠ none) : NetAt R F tn H1 jn s cv dv tv tp rd views ∧ Beside R H1 F jn Fi' := by
  have hl : Le R H1 := ho.le h.le hb.off
  obtain ⟨vv, rows, b1, _⟩ := h.body
  refine ⟨h.keep (Le.refl _) hl (fun b c hbb hc => ho b c hc fun hf => ?_) h.off h.jR, ⟨hw.none hb.off h.le, fun b hf => hk b hf (hb.kn b), fun b hf => ?_⟩⟩
  · rcases hbb with e | e
    · exact (hb.dj b hf).1 e
    · exact (hb.dj b hf).2 e
  · rcases hw.2 b hf with e | e
    · exact hb.dj b e
    · exact ⟨fun hF => h.kn b hF e, fun e2 => by subst e2; rw [b1] at e; cases e⟩
end
end Go.Proofs.YtchhpagkdaaglaaDoor.SL
