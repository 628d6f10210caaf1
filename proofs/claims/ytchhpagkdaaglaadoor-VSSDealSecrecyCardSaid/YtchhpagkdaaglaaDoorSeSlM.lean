/- Part 13 of the proof of LawSe: SlM, one behind the other. -/
import Derived.Test.YtchhpagkdaaglaaDoorSeSlL
set_option linter.unusedVariables false
set_option linter.unusedSimpArgs false
namespace Go.Proofs.YtchhpagkdaaglaaDoor.SL
open Go

def maskStep (ms : List Nat) (es : List Edge) : Nat := es.foldl (fun s e => if Region.binds .any e then (s ||| 2 ^ e.on) ||| ms.getD e.on 0 else s) 0
def masks : List Oper → List Nat → List Nat
  | [], acc => acc
  | o :: rest, acc => masks rest (acc ++ [maskStep acc o.after.toList])
def masksOk (ops : Array Oper) (ms : List Nat) : Bool :=
  (List.range ops.size).all fun i => match ops[i]? with
    | some o => maskStep ms o.after.toList == ms.getD i 0 && o.after.toList.all fun e => !Region.binds .any e || Nat.blt e.on i
    | none => true
def edgeB (ops : Array Oper) (i j : Nat) : Bool := match ops[i]? with
  | some o => o.after.toList.any fun e => Region.binds .any e && Nat.beq e.on j
  | none => false
def pairB (ops : Array Oper) (ms : List Nat) (x y : Nat) : Bool :=
  !edgeB ops x y && ((ms.getD y 0).testBit x || match ops[x]?, ops[y]? with
    | some ox, some oy => ox.apart ops oy && swapC ox.op oy.op
    | _, _ => false)
def pairsB (ops : Array Oper) (ms : List Nat) : List Nat → Bool
  | [] => true
  | x :: rest => rest.all (pairB ops ms x) && pairsB ops ms rest
def distinctB : List Nat → Bool
  | [] => true
  | x :: rest => (rest.all fun y => !Nat.beq x y) && distinctB rest
def orderOk (ops : Array Oper) (ms : List Nat) (L : List Nat) : Bool :=
  masksOk ops ms && pairsB ops ms L && Nat.beq L.length ops.size && ((List.range ops.size).all (fun i => L.contains i) && (distinctB L && L.all fun i => Nat.blt i ops.size))

section
variable {P : Program} {T : Types} {X : Externs} {nt : Nat} {ops : Array Oper} {ms : List Nat}

theorem maskStep_bit (es : List Edge) {x : Nat} : ∀ (s : Nat), (es.foldl (fun s e => if Region.binds .any e then (s ||| 2 ^ e.on) ||| ms.getD e.on 0 else s) s).testBit x = true →
    s.testBit x = true ∨ ∃ e ∈ es, Region.binds .any e = true ∧ (e.on = x ∨ (ms.getD e.on 0).testBit x = true) := by
  induction es with
  | nil => intro s h; exact .inl h
  | cons e es ih =>
    intro s h
    simp only [List.foldl_cons] at h
    rcases ih _ h with h1 | ⟨e', he', h2⟩
    · by_cases hb : Region.binds .any e = true
      · rw [if_pos hb] at h1
        simp only [Nat.testBit_or, Bool.or_eq_true] at h1
        rcases h1 with (h1 | h1) | h1
        · exact .inl h1
        · refine .inr ⟨e, by simp, hb, .inl ?_⟩
          simpa [Nat.testBit_two_pow] using h1
        · exact .inr ⟨e, by simp, hb, .inr h1⟩
      · rw [if_neg hb] at h1
        exact .inl h1
    · exact .inr ⟨e', by simp [he'], h2⟩

def Closed (ops : Array Oper) (listed : Array Bool) : Prop := ∀ j oj, ops[j]? = some oj → listed.getD j false = true → ∀ e ∈ oj.after, Region.binds .any e = true → listed.getD e.on false = true

theorem mask_listed (hm : masksOk ops ms = true) {listed : Array Bool} (hc : Closed ops listed) : ∀ (j : Nat), j < ops.size → listed.getD j false = true → ∀ x, (ms.getD j 0).testBit x = true → listed.getD x false = true := by
  intro j
  induction j using Nat.strongRecOn with
  | _ j ih =>
    intro hj hl x hx
    have h1 := List.all_eq_true.1 hm j (List.mem_range.2 hj)
    have ho : ops[j]? = some ops[j] := by simp [hj]
    simp only [ho, Bool.and_eq_true, beq_iff_eq] at h1
    obtain ⟨h2, h3⟩ := h1
    rw [← h2] at hx
    rcases maskStep_bit ops[j].after.toList 0 hx with h4 | ⟨e, he, hb, h4⟩
    · simp at h4
    · have hle := hc j _ ho hl e (by simpa using he) hb
      rcases h4 with h4 | h4
      · rw [← h4]; exact hle
      · have h5 := List.all_eq_true.1 h3 e he
        simp only [hb, Bool.not_true, Bool.false_or] at h5
        have hlt : e.on < j := by
          have := h5
          simp [Nat.blt] at this
          omega
        exact ih e.on hlt (by omega) hle x h4

theorem denL_front {k : Env → Heap → Prop} {i : Nat} {oi : Oper} (hi : ops[i]? = some oi) {R : List Nat} : ∀ (A : List Nat) (W : Watch) (env : Env) (H : Heap),
    (∀ a ∈ A, ∃ oa, ops[a]? = some oa ∧ oa.apart ops oi = true ∧ swapC oa.op oi.op = true ∧ (ms.getD i 0).testBit a = false) → Real H → MonoW W →
    denL T X P nt ops ms (A ++ i :: R) W env H k → denL T X P nt ops ms (i :: (A ++ R)) W env H k
  | [], _, _, _, _, _, _, h => h
  | a :: A, W, env, H, ha, hr, hW, h => by
    obtain ⟨oa, h1, h2, h3, h4⟩ := ha a (by simp)
    have ht : denL T X P nt ops ms (a :: i :: (A ++ R)) W env H k :=
      denL_tail (fun W env H hr hW hh => denL_front hi A W env H (fun b hb => ha b (by simp [hb])) hr hW hh) hr hW h
    exact swap h1 hi h2 h3 h4 hr hW ht

theorem pairsB_split {L A : List Nat} {i : Nat} {B : List Nat} (h : pairsB ops ms L = true) (e : L = A ++ i :: B) : ∀ a ∈ A, pairB ops ms a i = true := by
  subst e
  induction A with
  | nil => intro a ha; cases ha
  | cons b A ih =>
    simp only [List.cons_append, pairsB, Bool.and_eq_true] at h
    intro a ha
    rcases List.mem_cons.1 ha with rfl | ha
    · exact List.all_eq_true.1 h.1 i (by simp)
    · exact ih h.2 a ha
theorem pairsB_erase {A : List Nat} {i : Nat} {B : List Nat} (h : pairsB ops ms (A ++ i :: B) = true) : pairsB ops ms (A ++ B) = true := by
  induction A with
  | nil =>
    simp only [List.nil_append, pairsB, Bool.and_eq_true] at h ⊢
    exact h.2
  | cons b A ih =>
    simp only [List.cons_append, pairsB, Bool.and_eq_true] at h ⊢
    refine ⟨List.all_eq_true.2 fun y hy => List.all_eq_true.1 h.1 y ?_, ih h.2⟩
    simp only [List.mem_append, List.mem_cons] at hy ⊢
    rcases hy with hy | hy
    · exact .inl hy
    · exact .inr (.inr hy)

theorem denL_any (hT : TOk P T) (hX : XOk P X) (hm : masksOk ops ms = true) {Q : Exit → Env → Heap → Prop} {H0 : Heap} {w0 : World} : ∀ (n : Nat) (L : List Nat) (W : Watch) (listed : Array Bool) (env : Env) (H : Heap) (a : Act) (w : World),
    L.length = n → L.Nodup → listed.size = ops.size → (∀ i, i ∈ L ↔ i < ops.size ∧ listed.getD i true = false) → pairsB ops ms L = true → Closed ops listed →
    denL T X P nt ops ms L W env H (Q .normal) → MonoW W → Sat H w → EnvOk nt env a → Keeps H0 w0 H w → wpAny P .any ops (lift nt H0 w0 Q) n listed a w := by
  intro n
  induction n with
  | zero =>
    intro L W listed env H a w hl hnd hsz hmem hp hc h hW hs he hk
    have : L = [] := List.eq_nil_of_length_eq_zero hl
    subst this
    refine ⟨?_, env, H, he, hs, hk, h⟩
    apply List.eq_nil_iff_forall_not_mem.2
    intro i hi
    obtain ⟨h1, o, ho, _⟩ := mem_ready.1 hi
    have := (hmem i).2 ⟨(Array.getElem?_eq_some_iff.1 ho).1, h1⟩
    cases this
  | succ n ih =>
    intro L W listed env H a w hl hnd hsz hmem hp hc h hW hs he hk
    refine ⟨fun hr => ?_, fun i hi => ?_⟩
    · -- the first of ours is ready
      exfalso
      cases L with
      | nil => simp at hl
      | cons i R =>
        obtain ⟨hilt, hiu⟩ := (hmem i).1 (by simp)
        have ho : ops[i]? = some ops[i] := by simp [hilt]
        have : i ∈ Region.ready .any ops listed := by
          refine mem_ready.2 ⟨hiu, _, ho, fun e hee hb => ?_⟩
          -- what it waits for stands earlier: it is listed
          have h1 := List.all_eq_true.1 hm i (List.mem_range.2 hilt)
          simp only [ho, Bool.and_eq_true, beq_iff_eq] at h1
          have h2 := List.all_eq_true.1 h1.2 e (by simpa using hee)
          simp only [hb, Bool.not_true, Bool.false_or] at h2
          have hlt : e.on < i := by
            simp [Nat.blt] at h2
            omega
          by_cases hul : listed.getD e.on true = false
          · have hin : e.on ∈ i :: R := (hmem e.on).2 ⟨by omega, hul⟩
            rcases List.mem_cons.1 hin with h3 | h3
            · omega
            · simp only [pairsB, Bool.and_eq_true] at hp
              have h4 := List.all_eq_true.1 hp.1 e.on h3
              simp only [pairB, Bool.and_eq_true, Bool.not_eq_true'] at h4
              have h5 : edgeB ops i e.on = true := by
                simp only [edgeB, ho]
                refine List.any_eq_true.2 ⟨e, by simpa using hee, ?_⟩
                rw [hb, Nat.beq_refl]
                rfl
              rw [h4.1] at h5
              cases h5
          · have hlt2 : e.on < listed.size := by omega
            simp only [Array.getD_eq_getD_getElem?, hlt2, Array.getElem?_eq_getElem, Option.getD_some] at hul ⊢
            simpa using hul
        rw [hr] at this
        cases this
    · obtain ⟨hiu, oi, hoi, hall⟩ := mem_ready.1 hi
      have hilt : i < ops.size := (Array.getElem?_eq_some_iff.1 hoi).1
      have hin : i ∈ L := (hmem i).2 ⟨hilt, hiu⟩
      obtain ⟨A, B, rfl⟩ := List.append_of_mem hin
      have hpair := pairsB_split hp rfl
      have hc' : Closed ops (listed.setIfInBounds i true) := by
        intro j oj hj hlj e hee hb
        by_cases hij : i = j
        · subst hij
          rw [hoi] at hj
          cases hj
          exact getD_set_true (hall e hee hb)
        · rw [getD_set_ne false hij] at hlj
          exact getD_set_true (hc j oj hj hlj e hee hb)
      have hAun : ∀ b ∈ A, listed.getD b true = false ∧ b < ops.size ∧ b ≠ i := by
        intro b hb
        obtain ⟨h1, h2⟩ := (hmem b).1 (by simp [hb])
        refine ⟨h2, h1, fun e => ?_⟩
        subst e
        exact (List.nodup_append.1 hnd).2.2 b hb b (by simp) rfl
      have hready : ∀ b ∈ A, ∃ ob, ops[b]? = some ob ∧ ob.apart ops oi = true ∧ swapC ob.op oi.op = true ∧ (ms.getD i 0).testBit b = false := by
        intro b hb
        have h1 := hpair b hb
        obtain ⟨hbu, hblt, hbi⟩ := hAun b hb
        have hbit : (ms.getD i 0).testBit b = false := by
          cases hq : (ms.getD i 0).testBit b with
          | false => rfl
          | true =>
            have hls : (listed.setIfInBounds i true).getD i false = true := by
              have : i < listed.size := by omega
              simp [this]
            have h2 := mask_listed hm hc' i hilt hls b hq
            rw [getD_set_ne false (Ne.symm hbi)] at h2
            have hlt2 : b < listed.size := by omega
            simp only [Array.getD_eq_getD_getElem?, hlt2, Array.getElem?_eq_getElem, Option.getD_some] at hbu h2
            rw [hbu] at h2
            cases h2
        have hob : ops[b]? = some ops[b] := by simp [hblt]
        simp only [pairB, hbit, Bool.false_or, hob, hoi, Bool.and_eq_true] at h1
        exact ⟨_, hob, h1.2.1, h1.2.2, hbit⟩
      have hfront := denL_front hoi A W env H hready ⟨w, hs⟩ hW h
      -- carry it out
      have next : ∀ (W' : Watch), MonoW W' → ∀ env' H' a' w', EnvOk nt env' a' → Sat H' w' → Keeps H w H' w' → denL T X P nt ops ms (A ++ B) W' env' H' (Q .normal) →
          wpAny P .any ops (lift nt H0 w0 Q) n (listed.setIfInBounds i true) a' w' := by
        intro W' hW' env' H' a' w' h1 h2 h3 h4
        refine ih (A ++ B) W' (listed.setIfInBounds i true) env' H' a' w' ?_ ?_ (by simpa using hsz) ?_ (pairsB_erase hp) hc' h4 hW' h2 h1 (hk.trans h3)
        · simp only [List.length_append, List.length_cons] at hl ⊢
          omega
        · obtain ⟨n1, n2, n3⟩ := List.nodup_append.1 hnd
          refine List.nodup_append.2 ⟨n1, (List.nodup_cons.1 n2).2, fun u hu v hv => n3 u hu v (List.mem_cons_of_mem _ hv)⟩
        · intro j
          have hj := hmem j
          simp only [List.mem_append, List.mem_cons] at hj ⊢
          obtain ⟨n1, n2, n3⟩ := List.nodup_append.1 hnd
          have hnB : i ∉ B := (List.nodup_cons.1 n2).1
          have hnA : i ∉ A := fun hA => n3 i hA i (by simp) rfl
          by_cases hij : i = j
          · subst hij
            constructor
            · intro hh
              rcases hh with hh | hh
              · exact absurd hh hnA
              · exact absurd hh hnB
            · rintro ⟨_, hh⟩
              have : i < listed.size := by omega
              simp [this] at hh
          · rw [getD_set_ne true hij, ← hj]
            constructor
            · intro hh
              rcases hh with hh | hh
              · exact .inl hh
              · exact .inr (.inr hh)
            · intro hh
              rcases hh with hh | hh | hh
              · exact .inl hh
              · exact absurd hh.symm hij
              · exact .inr hh
      have run : ∀ (k : Env → Heap → Prop), stp T X P ops oi env H (fun v H' => k (putE nt env oi.dst v) H') → (∀ env' H' a' w', EnvOk nt env' a' → Sat H' w' → Keeps H w H' w' → k env' H' → wpAny P .any ops (lift nt H0 w0 Q) n (listed.setIfInBounds i true) a' w') →
          wpOp P ops (lift nt H0 w0 Q) i (wpAny P .any ops (lift nt H0 w0 Q) n (listed.setIfInBounds i true)) a w :=
        fun k hk1 hk2 => opGv_wp (nt := nt) hT hX (k := k) hoi hk1 hs he hk2 fun _ _ _ _ _ h => h.elim
      by_cases c1 : cls oi.op = 1
      · rw [denL_1 hoi c1] at hfront
        obtain ⟨v, hv, hh⟩ := oV_elim hfront
        refine run (fun e H' => e = putE nt env oi.dst v ∧ H' = H) ((step_read c1 env H _).2 (by rw [hv]; exact ⟨rfl, rfl⟩)) ?_
        rintro env' H' a' w' h1 h2 h3 ⟨rfl, rfl⟩
        exact next _ hW.cons _ _ _ _ h1 h2 h3 hh
      · by_cases c3 : cls oi.op = 3
        · rw [denL_3 hoi c3] at hfront
          refine run (fun e H' => denL T X P nt ops ms (A ++ B) W e H' (Q .normal)) (stp_mono oi env _ _ _ ⟨w, hs⟩ hfront fun v H' _ hv => (wCheck_iff.1 hv).2) ?_
          exact fun env' H' a' w' h1 h2 h3 h4 => next W hW _ _ _ _ h1 h2 h3 h4
        · rw [denL_0 hoi c1 c3] at hfront
          refine run (fun e H' => denL T X P nt ops ms (A ++ B) W e H' (Q .normal)) hfront ?_
          exact fun env' H' a' w' h1 h2 h3 h4 => next W hW _ _ _ _ h1 h2 h3 h4

theorem nodup_of_distinct : ∀ (L : List Nat), distinctB L = true → L.Nodup
  | [], _ => List.nodup_nil
  | x :: L, h => by
    simp only [distinctB, Bool.and_eq_true] at h
    refine List.nodup_cons.2 ⟨fun hx => ?_, nodup_of_distinct L h.2⟩
    have := List.all_eq_true.1 h.1 x hx
    simp at this

theorem qUZ.draw (hT : TOk P T) (hX : XOk P X) (hf : P.follows .mixedOrders = true) {id : Nat} {L : List Nat} {env : Env} {H : Heap} {Q : Exit → Env → Heap → Prop} (hok : orderOk ops ms L = true)
    (h : denL T X P nt ops ms L [] env H (Q .normal)) : qUZ P nt (.region id ops true) env H Q := by
  intro a w he hs
  simp only [orderOk, Bool.and_eq_true] at hok
  obtain ⟨⟨⟨hm, hp⟩, hl⟩, hall, hdis, hlts⟩ := hok
  have hl := Nat.eq_of_beq_eq_true hl
  have hall' : ∀ i, i < ops.size → i ∈ L := fun i hi => by simpa using List.all_eq_true.1 hall i (List.mem_range.2 hi)
  have hnd := nodup_of_distinct L hdis
  have hlt : ∀ i, i ∈ L → i < ops.size := fun i hi => by
    have := List.all_eq_true.1 hlts i hi
    simp [Nat.blt] at this
    omega
  have hrun := denL_any hT hX hm (Q := Q) (H0 := H) (w0 := w) ops.size L [] (Array.replicate ops.size false) env H a w.drew hl hnd (by simp)
    (fun i => ⟨fun hi => ⟨hlt i hi, by simp [hlt i hi]⟩, fun hi => hall' i hi.1⟩) hp
    (fun j oj hj hlj => by
      have : j < ops.size := (Array.getElem?_eq_some_iff.1 hj).1
      simp [this] at hlj) h (fun e he => by cases he) hs.drew he (Keeps.drew H w)
  exact wp_region_any hf hrun
end
end Go.Proofs.YtchhpagkdaaglaaDoor.SL
