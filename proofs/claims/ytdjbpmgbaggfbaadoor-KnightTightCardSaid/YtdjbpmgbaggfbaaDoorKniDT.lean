import Derived.Test.YtdjbpmgbaggfbaaDoorKniD0
import Derived.Test.YtdjbpmgbaggfbaaDoorKniD1
import Derived.Test.YtdjbpmgbaggfbaaDoorKniD2
namespace Go.Proofs.Tryd.Dn
open Go.Dn

def tab : Tab := (.two 68 (.two 41 (.two 29 (.two 20 (.two 18 (.one 7 d7) (.two 19 (.one 18 d18) (.one 19 d19))) (.two 26 (.two 25 (.one 20 d20) (.one 25 d25)) (.two 28 (.one 26 d26) (.one 28 d28)))) (.two 37 (.two 35 (.one 29 d29) (.two 36 (.one 35 d35) (.one 36 d36))) (.two 39 (.two 38 (.one 37 d37) (.one 38 d38)) (.two 40 (.one 39 d39) (.one 40 d40))))) (.two 61 (.two 48 (.two 44 (.one 41 d41) (.two 45 (.one 44 d44) (.one 45 d45))) (.two 59 (.two 58 (.one 48 d48) (.one 58 d58)) (.two 60 (.one 59 d59) (.one 60 d60)))) (.two 64 (.two 62 (.one 61 d61) (.two 63 (.one 62 d62) (.one 63 d63))) (.two 66 (.two 65 (.one 64 d64) (.one 65 d65)) (.two 67 (.one 66 d66) (.one 67 d67)))))) (.two 89 (.two 75 (.two 71 (.two 69 (.one 68 d68) (.two 70 (.one 69 d69) (.one 70 d70))) (.two 73 (.two 72 (.one 71 d71) (.one 72 d72)) (.two 74 (.one 73 d73) (.one 74 d74)))) (.two 84 (.two 80 (.one 75 d75) (.two 81 (.one 80 d80) (.one 81 d81))) (.two 87 (.two 86 (.one 84 d84) (.one 86 d86)) (.two 88 (.one 87 d87) (.one 88 d88))))) (.two 96 (.two 92 (.two 90 (.one 89 d89) (.two 91 (.one 90 d90) (.one 91 d91))) (.two 94 (.two 93 (.one 92 d92) (.one 93 d93)) (.two 95 (.one 94 d94) (.one 95 d95)))) (.two 100 (.two 98 (.one 96 d96) (.two 99 (.one 98 d98) (.one 99 d99))) (.two 102 (.two 101 (.one 100 d100) (.one 101 d101)) (.two 103 (.one 102 d102) (.one 103 d103)))))))

theorem tab_ok : tab.Ok Tryd.prog := ⟨⟨⟨⟨⟨ok7, ⟨ok18, ok19⟩⟩, ⟨⟨ok20, ok25⟩, ⟨ok26, ok28⟩⟩⟩, ⟨⟨ok29, ⟨ok35, ok36⟩⟩, ⟨⟨ok37, ok38⟩, ⟨ok39, ok40⟩⟩⟩⟩, ⟨⟨⟨ok41, ⟨ok44, ok45⟩⟩, ⟨⟨ok48, ok58⟩, ⟨ok59, ok60⟩⟩⟩, ⟨⟨ok61, ⟨ok62, ok63⟩⟩, ⟨⟨ok64, ok65⟩, ⟨ok66, ok67⟩⟩⟩⟩⟩, ⟨⟨⟨⟨ok68, ⟨ok69, ok70⟩⟩, ⟨⟨ok71, ok72⟩, ⟨ok73, ok74⟩⟩⟩, ⟨⟨ok75, ⟨ok80, ok81⟩⟩, ⟨⟨ok84, ok86⟩, ⟨ok87, ok88⟩⟩⟩⟩, ⟨⟨⟨ok89, ⟨ok90, ok91⟩⟩, ⟨⟨ok92, ok93⟩, ⟨ok94, ok95⟩⟩⟩, ⟨⟨ok96, ⟨ok98, ok99⟩⟩, ⟨⟨ok100, ok101⟩, ⟨ok102, ok103⟩⟩⟩⟩⟩⟩

end Go.Proofs.Tryd.Dn

