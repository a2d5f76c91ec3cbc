import Derived.Test.YtijeefncmgjlpaaDicD0
import Derived.Test.YtijeefncmgjlpaaDicD1
namespace Go.Proofs.Try.Dn
open Go.Dn

def tab : Tab := (.two 73 (.two 52 (.two 34 (.two 23 (.two 19 (.one 15 d15) (.two 20 (.one 19 d19) (.one 20 d20))) (.two 25 (.two 24 (.one 23 d23) (.one 24 d24)) (.two 28 (.one 25 d25) (.one 28 d28)))) (.two 41 (.two 35 (.one 34 d34) (.two 40 (.one 35 d35) (.one 40 d40))) (.two 47 (.two 42 (.one 41 d41) (.one 42 d42)) (.two 51 (.one 47 d47) (.one 51 d51))))) (.two 61 (.two 56 (.two 53 (.one 52 d52) (.two 55 (.one 53 d53) (.one 55 d55))) (.two 58 (.two 57 (.one 56 d56) (.one 57 d57)) (.two 60 (.one 58 d58) (.one 60 d60)))) (.two 66 (.two 63 (.one 61 d61) (.two 65 (.one 63 d63) (.one 65 d65))) (.two 69 (.two 68 (.one 66 d66) (.one 68 d68)) (.two 72 (.one 69 d69) (.one 72 d72)))))) (.two 88 (.two 80 (.two 76 (.two 74 (.one 73 d73) (.two 75 (.one 74 d74) (.one 75 d75))) (.two 78 (.two 77 (.one 76 d76) (.one 77 d77)) (.two 79 (.one 78 d78) (.one 79 d79)))) (.two 84 (.two 82 (.one 80 d80) (.two 83 (.one 82 d82) (.one 83 d83))) (.two 86 (.two 85 (.one 84 d84) (.one 85 d85)) (.two 87 (.one 86 d86) (.one 87 d87))))) (.two 99 (.two 92 (.two 90 (.one 88 d88) (.two 91 (.one 90 d90) (.one 91 d91))) (.two 94 (.two 93 (.one 92 d92) (.one 93 d93)) (.two 95 (.one 94 d94) (.one 95 d95)))) (.two 102 (.two 100 (.one 99 d99) (.two 101 (.one 100 d100) (.one 101 d101))) (.two 109 (.two 103 (.one 102 d102) (.one 103 d103)) (.two 110 (.one 109 d109) (.one 110 d110)))))))

theorem tab_ok : tab.Ok Try.prog := ⟨⟨⟨⟨⟨ok15, ⟨ok19, ok20⟩⟩, ⟨⟨ok23, ok24⟩, ⟨ok25, ok28⟩⟩⟩, ⟨⟨ok34, ⟨ok35, ok40⟩⟩, ⟨⟨ok41, ok42⟩, ⟨ok47, ok51⟩⟩⟩⟩, ⟨⟨⟨ok52, ⟨ok53, ok55⟩⟩, ⟨⟨ok56, ok57⟩, ⟨ok58, ok60⟩⟩⟩, ⟨⟨ok61, ⟨ok63, ok65⟩⟩, ⟨⟨ok66, ok68⟩, ⟨ok69, ok72⟩⟩⟩⟩⟩, ⟨⟨⟨⟨ok73, ⟨ok74, ok75⟩⟩, ⟨⟨ok76, ok77⟩, ⟨ok78, ok79⟩⟩⟩, ⟨⟨ok80, ⟨ok82, ok83⟩⟩, ⟨⟨ok84, ok85⟩, ⟨ok86, ok87⟩⟩⟩⟩, ⟨⟨⟨ok88, ⟨ok90, ok91⟩⟩, ⟨⟨ok92, ok93⟩, ⟨ok94, ok95⟩⟩⟩, ⟨⟨ok99, ⟨ok100, ok101⟩⟩, ⟨⟨ok102, ok103⟩, ⟨ok109, ok110⟩⟩⟩⟩⟩⟩

end Go.Proofs.Try.Dn

